/- back.Pairs. -/
import Derived.Test.YtpaahhanjjjieaaBv
namespace Go.Proofs.Ytpaahhanjjjieaa
set_option maxRecDepth 100000
open Go.RowKit

def okNum (n : Int) : Prop := 0 ≤ n ∧ n ≤ 65535
instance (n : Int) : Decidable (okNum n) := by unfold okNum; infer_instance
def pairsErr (l : List Int) : Int := if 200 < l.length then 4 else if ∀ x ∈ l, okNum x then 0 else 1
def errV (e : Int) : Value := if e = 0 then .nilIface else .iface 44 (.int .i64 e)

theorem i64_or (a b : Nat) (ha : a < 65536) (hb : b < 65536) : bits .or .i64 (a : Int) (b : Int) = ((a ||| b : Nat) : Int) :=
  (bits_nat .i64 16 (by decide) (fun n h0 h1 => by rw [IntKind.wrap_i64]; omega) a b (by simpa using ha) (by simpa using hb)).2

theorem Pairs_long (A : Option Addr) (n c : Nat) (w : World) (h : 200 < n) (hn : n ≤ 9223372036854775807) :
    Calls Try.prog 5 #[.slice A n c] w fun e w' => e = .returned (.tuple #[.slice none 0 0, errV 4]) ∧ Below w.heap.size w w' := by
  have h' : (200 : Int) < (n : Int) := by omega
  go_enter Try.func5, Try.ntmps5
  go_wp2
  go_ret2
  exact ⟨rfl, Below.refl _ _⟩

set_option maxHeartbeats 1000000 in
theorem Pairs_range (A : Option Addr) (n c : Nat) (l : List Int) (w : World) (hl : l.length = n) (hr : RdC w w.heap.size A (icells l)) (h : n ≤ 200) (hbad : ∃ (j : Nat) (x : Int), l[j]? = some x ∧ ¬ okNum x) :
    Calls Try.prog 5 #[.slice A n c] w fun e w' => e = .returned (.tuple #[.slice none 0 0, errV 1]) ∧ Below w.heap.size w w' := by
  have HL := Lib.hid hl; have HR := Lib.hid hr; have HBad := Lib.hid hbad
  clear hl hr hbad
  go_enter Try.func5, Try.ntmps5
  go_wp2
  go_loopw [16] (fun i wr => ∃ k : Nat, k ≤ n ∧ i = .int .i64 k ∧ (∃ (j : Nat) (x : Int), k ≤ j ∧ l[j]? = some x ∧ ¬ okNum x) ∧ Below w.heap.size w wr) (fun i _ => n - (intOf i).toNat)
  case atStart => exact ⟨0, by omega, rfl, by obtain ⟨j, x, h1, h2⟩ := HBad.out; exact ⟨j, x, by omega, h1, h2⟩, Below.refl _ _⟩
  case round =>
    obtain ⟨k, hk, rfl, ⟨j, x, hj, hx, hbx⟩, hb⟩ := hrel
    have hjl : j < l.length := (List.getElem?_eq_some_iff.1 hx).1
    have hlt : k < n := by have := HL.out; omega
    obtain ⟨b, off, m, hA, hblk, hm, e1⟩ := HR.out.int_at hb (k := k) (by rw [HL.out]; omega)
    subst hA
    have HX := Lib.hid hx; have HB := Lib.hid hb; have HM := Lib.hid hm; have HBx := Lib.hid hbx; clear hx hb hm hbx
    by_cases hok : okNum m
    · have HOk := Lib.hid hok; clear hok
      have hjk : k < j := by
        rcases Nat.lt_or_eq_of_le hj with h' | h'
        · exact h'
        · have hx := HX.out; rw [← h', HM.out] at hx; cases hx; exact absurd HOk.out HBx.out
      go_wp2_with fail
      refine (Seq_yes m _ HOk.out).mono ?_
      rintro e w1 ⟨rfl, rfl⟩
      go_wp2
      go_roundw
      case rel => exact ⟨k + 1, by omega, by go_num, ⟨j, x, by omega, HX.out, HBx.out⟩, HB.out⟩
      case measure => simp [intOf]; omega
    · have HOk := Lib.hid hok; clear hok
      go_wp2_with fail
      refine (Seq_no m _ HOk.out).mono ?_
      rintro e w1 ⟨rfl, rfl⟩
      go_wp2
      go_ret2
      exact ⟨rfl, HB.out⟩

theorem pairsR_ne {xs : List Int} (h : xs ≠ []) : pairsR xs ≠ [] := by
  obtain ⟨ys, n, rfl⟩ : ∃ ys n, xs = ys ++ [n] := ⟨xs.dropLast, xs.getLast h, (List.dropLast_concat_getLast h).symm⟩
  rw [pairsR_snoc]
  cases pairsR ys with
  | nil => simp [pairStep]
  | cons p s =>
    obtain ⟨b, m⟩ := p
    simp only [pairStep]
    split
    · split <;> simp
    · simp
theorem length_pairStep (r : List (Int × Nat)) (n : Int) : (pairStep r n).length ≤ r.length + 1 := by
  cases r with
  | nil => simp [pairStep]
  | cons p s =>
    obtain ⟨b, m⟩ := p
    simp only [pairStep]
    split
    · split <;> simp
    · simp
theorem length_pairsR (xs : List Int) : (pairsR xs).length ≤ xs.length := by
  induction h : xs.length generalizing xs with
  | zero => obtain rfl : xs = [] := List.eq_nil_of_length_eq_zero h; simp [pairsR]
  | succ k ih =>
    obtain ⟨ys, n, rfl⟩ : ∃ ys n, xs = ys ++ [n] := ⟨xs.dropLast, xs.getLast (by intro e; simp [e] at h), (List.dropLast_concat_getLast _).symm⟩
    rw [pairsR_snoc]
    have := ih ys (by simpa using h)
    have := length_pairStep (pairsR ys) n
    omega
/-- the cells of pairs that were made backwards -/
def rcells (r : List (Int × Nat)) : List Value := qcells (toZ r.reverse)
theorem rcells_cons (p : Int × Nat) (r : List (Int × Nat)) : rcells (p :: r) = rcells r ++ [.int .i64 p.1, .int .i64 (p.2 : Int)] := by
  simp only [rcells, List.reverse_cons, toZ, List.map_append, qcells_append]
  rfl
theorem rcells_length (r : List (Int × Nat)) : (rcells r).length = r.length * 2 := by simp [rcells, qcells_length, toZ]
theorem rcells_set (b : Int) (m m' : Nat) (r : List (Int × Nat)) : (rcells ((b, m) :: r)).set (r.length * 2 + 1) (.int .i64 (m' : Int)) = rcells ((b, m') :: r) := by
  rw [rcells_cons, rcells_cons, List.set_append_right _ _ (by rw [rcells_length]; omega)]
  simp [rcells_length]
theorem rcells_last (b : Int) (m : Nat) (r : List (Int × Nat)) : (rcells ((b, m) :: r))[r.length * 2]? = some (.int .i64 b) ∧ (rcells ((b, m) :: r))[r.length * 2 + 1]? = some (.int .i64 (m : Int)) := by
  rw [rcells_cons]
  constructor
  · rw [List.getElem?_append_right (by rw [rcells_length]; omega)]; simp [rcells_length]
  · rw [List.getElem?_append_right (by rw [rcells_length]; omega)]; simp [rcells_length]
end Go.Proofs.Ytpaahhanjjjieaa
