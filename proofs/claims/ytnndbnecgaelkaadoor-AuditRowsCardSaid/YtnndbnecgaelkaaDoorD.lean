/- places of what was got in what was sent: each at once. -/
import Derived.Test.YtnndbnecgaelkaaDoorC
namespace Go.Proofs.YtnndbnecgaelkaaDoor
set_option maxRecDepth 100000
open Go.RowKit

def icells (l : List Int) : List Value := l.map (Value.int .i64)
def upto (k : Nat) : List Int := (List.range k).map Int.ofNat
theorem upto_succ (k : Nat) : upto (k + 1) = upto k ++ [(k : Int)] := by simp [upto, List.range_succ]
theorem upto_length (k : Nat) : (upto k).length = k := by simp [upto]
theorem one_new (w : World) (u : Value) (t : TypeId) (b : Nat) (hb : b = w.heap.size) : ∀ j v, [u][j]? = some v → (w.alloc (.cells #[u] t)).cell? ((⟨b, 0, none⟩ : Addr).add j) = some v := by
  intro j v hj
  rcases j with _ | j
  · simp at hj; subst hj; subst hb; simp [Addr.add]
  · simp at hj
theorem le_alloc {w : World} {o : Obj} {n : Nat} (h : n ≤ w.heap.size) : n ≤ (w.alloc o).heap.size := by simp; omega

/-- a packet goes on as another was sent -/
def alikeP (p q : Pk) : Prop := p.layer = q.layer ∧ p.level = q.level ∧ p.start = q.start ∧ p.body = q.body ∧ p.n = q.n ∧ p.n ≤ 1000

set_option maxHeartbeats 2000000 in
theorem places_ok (A B : Option Addr) (m cs cg : Nat) (s g : List Pk) (w : World) (hs : s.length = m) (hg : g.length = m) (hr : RdP w w.heap.size A s) (hr' : RdP w w.heap.size B g) (hm : m ≤ 1000) (hcs : m ≤ cs)
    (hal : ∀ (k : Nat) p q, s[k]? = some p → g[k]? = some q → alikeP p q) :
    Calls Tryd.prog 23 #[.slice A m cs, .slice B m cg] w fun e w' => ∃ A' c', e = .returned (.tuple #[.slice A' m c', .int .i64 0, .nilIface]) ∧ w'.ownsRow w.heap.size 3 1 (.slice A' m c') m (icells (upto m)) ∧ Below w.heap.size w w' := by
  obtain ⟨i0, hi, hz0, hz1, hz2⟩ := info_parts info3
  have HL := Lib.hid hs; have HL' := Lib.hid hg; have HR := Lib.hid hr; have HR' := Lib.hid hr'; have HA := Lib.hid hal
  clear hs hg hr hr' hal
  have hm1 : decide ((1000 : Int) < (m : Int)) = false := by simp; omega
  go_enter Tryd.func23, Tryd.ntmps23
  go_wp2
  go_loopw [4, 7, 22] (fun o f i wr => ∃ (k cc : Nat) (A' : Option Addr), k ≤ m ∧ i = .int .i64 k ∧ f = .int .i64 k ∧ o = .slice A' k cc ∧ wr.ownsRow w.heap.size 3 1 (.slice A' k cc) k (icells (upto k)) ∧ Below w.heap.size w wr) (fun _ _ i _ => m - (intOf i).toNat)
  case atStart => exact ⟨0, 0, none, by omega, rfl, rfl, rfl, World.ownsRow_nil _ _ _ _, Below.refl _ _⟩
  case round =>
    obtain ⟨k, cc, A', hk, rfl, rfl, rfl, hown, hb⟩ := hrel
    have hlt' := hown.lt
    have HOw := Lib.hid hown; have HLt := Lib.hid hlt'; clear hown hlt'
    by_cases hlt : k < m
    · obtain ⟨bs, os, p, hAs, hbs, hp, p0, p1, p2, p3, p4, p5, pb⟩ := HR.out.at_ hb (k := k) (by rw [HL.out]; omega)
      obtain ⟨bg, og, q, hAg, hbg, hq, q0, q1, q2, q3, q4, q5, qb⟩ := HR'.out.at_ hb (k := k) (by rw [HL'.out]; omega)
      subst hAs; subst hAg
      obtain ⟨a1, a2, a3, a4, a5, a6⟩ := HA.out k p q hp hq
      have PB := Lib.hid pb; have QB := Lib.hid qb
      have HB := Lib.hid hb
      have hsz := hb.size
      have HSz := Lib.hid hsz
      obtain ⟨W1, hW1⟩ : ∃ W1, W1 = wr.alloc (.cells #[.int .i64 q.seq, .int .i64 q.time, .int .i64 q.layer, .int .i64 q.level, .bool q.start, .slice q.A q.n q.c] 29) := ⟨_, rfl⟩
      have hbW : Below wr.heap.size wr W1 := by rw [hW1]; exact (Below.refl _ _).alloc (Nat.le_refl _) _
      have hzW : W1.heap.size = wr.heap.size + 1 := by rw [hW1]; simp
      have hcl : ∀ o v, wr.cell? ⟨bs, o, none⟩ = some v → W1.cell? ⟨bs, o, none⟩ = some v := fun o v h => (hbW.cell (p := ⟨bs, o, none⟩) (by simp; omega)).trans h
      have hbd1 : RdB W1 W1.heap.size p.A p.body := (pb.2.2.1.below (hbW.mono hsz)).more (by omega)
      have hbd2 : RdB W1 W1.heap.size q.A p.body := by rw [a4]; exact (qb.2.2.1.below (hbW.mono hsz)).more (by omega)
      have HI := Lib.hid (index_hit bs (os + k * 6) (m - k) (cs - k) p.seq p.time q.seq q.time p.layer p.level p.start p.A q.A p.n p.c q.c p.body wr.heap.size W1 (by omega) pb.1 hbd1 hbd2 a6 (by omega)
        (hcl _ _ p0) (hcl _ _ p1) (hcl _ _ p2) (hcl _ _ p3) (hcl _ _ p4) (hcl _ _ p5)
        (by rw [hW1]; simp) (by rw [hW1]; simp) (by rw [hW1, a1]; simp) (by rw [hW1, a2]; simp) (by rw [hW1, a3]; simp) (by rw [hW1, a5]; simp))
      have HW := Lib.hid hW1; have HBW := Lib.hid hbW; have HZW := Lib.hid hzW
      have c1 : k ≤ cs := by omega
      clear hW1 hbW hzW hcl hbd1 hbd2 a1 a2 a3 a4 a5 a6 p0 p1 p2 p3 p4 p5 pb qb hp hq hb hsz
      go_wp2_with fail
      rw [← HW.out]
      refine HI.out.mono ?_
      rintro e w1 ⟨rfl, hb1⟩
      have hb2 : Below wr.heap.size wr w1 := HBW.out.trans (hb1.mono (by have := HZW.out; omega))
      have HB2 := Lib.hid hb2; clear hb1 hb2
      have HO5 : Hid ((w1.alloc (.cells #[.int .i64 k] 3)).ownsRow _ _ _ _ _ _) := Lib.hid (own_below HOw.out (HB2.out.alloc HB2.out.size (.cells #[.int .i64 k] 3)))
      have HC5 : Hid (∀ j u, [Value.int .i64 k][j]? = some u → (w1.alloc (.cells #[.int .i64 k] 3)).cell? ((⟨w1.heap.size, 0, none⟩ : Addr).add j) = some u) := Lib.hid (one_new _ _ _ _ rfl)
      have HS5 : Hid (w.heap.size ≤ w1.heap.size) := Lib.hid (Nat.le_trans HSz.out HB2.out.size)
      go_wp2_with (at_builtin; refine wpList_append_own _ rfl _ _ 37 rfl w.heap.size 3 i0 _ 1 8 Tryd.underlying37 hi hz0 hz1 hz2 rfl (by decide) _ _ _ rfl HO5.out ⟨w1.heap.size, 0, none⟩ 1 1 [.int .i64 k] rfl rfl HC5.out (by simp [Value.oneCell']) (by unfold maxLen; omega) (by omega) (le_alloc HS5.out) ?_; intro v' w6 hown6 hgr6 _)
      obtain ⟨A6, c6, hv6⟩ := own_slice hown6
      have e7 : icells (upto k) ++ [.int .i64 k] = icells (upto (k + 1)) := by rw [upto_succ]; simp [icells]
      rw [e7] at hown6
      have H6 := Lib.hid hown6; have HG6 := Lib.hid hgr6; have HV6 := Lib.hid hv6
      clear hown6 hgr6 hv6 e7
      rw [HV6.out]
      go_wp2
      go_roundw
      case rel => exact ⟨k + 1, c6, A6, by omega, by go_num, by go_num, rfl, by rw [← HV6.out]; exact H6.out, ((HB.out.trans (HB2.out.mono HSz.out)).alloc HS5.out _).grown HG6.out (le_alloc HS5.out) (fun j hj => (HLt.out j hj).1)⟩
      case measure => simp [intOf]; omega
    · obtain rfl : k = m := by omega
      go_wp2
      go_ret3
      exact ⟨A', cc, rfl, HOw.out, hb⟩
end Go.Proofs.YtnndbnecgaelkaaDoor
