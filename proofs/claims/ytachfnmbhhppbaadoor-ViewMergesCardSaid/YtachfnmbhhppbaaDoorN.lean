/- The references: View, Member. -/
import Derived.Test.YtachfnmbhhppbaaDoorS
import Derived.Test.YtachfnmbhhppbaaDoorTold
namespace Go.Proofs.YtachfnmbhhppbaaDoor
set_option maxRecDepth 100000
open Go.RowKit

theorem errT_errV (k : Int) : errT k = errV k := rfl

def zeroM : Mem := ⟨0, 0, false⟩
def getZ (l : List Mem) (t : Int) : Mem := (get l t).getD zeroM
theorem get_take_none {l : List Mem} {t : Int} {k : Nat} {m : Mem} (h : get (l.take k) t = none) (hm : l[k]? = some m) (hn : ¬ m.node = t) : get (l.take (k + 1)) t = none := by
  obtain ⟨h1, h2⟩ := List.getElem?_eq_some_iff.1 hm
  rw [List.take_succ_eq_append_getElem h1, get, List.find?_append, h2]
  rw [get] at h
  rw [h]
  simp only [Option.none_or, List.find?]
  rw [show (m.node == t) = false from by simpa using hn]
theorem get_take_some {l : List Mem} {t : Int} {k : Nat} {m : Mem} (h : get (l.take k) t = none) (hm : l[k]? = some m) (hn : m.node = t) : get l t = some m := by
  obtain ⟨h1, h2⟩ := List.getElem?_eq_some_iff.1 hm
  have e : l = l.take k ++ (m :: l.drop (k + 1)) := by rw [← drop_at l k m hm, List.take_append_drop]
  rw [e, get, List.find?_append]
  rw [get] at h
  rw [h]
  simp [List.find?, hn]

theorem Member_some (A : Option Addr) (n c : Nat) (l : List Mem) (t : Int) (x : Mem) (w : World) (hl : l.length = n) (hr : Rd w w.heap.size A l) (hn : n ≤ 1000) (hx : get l t = some x) :
    Calls Tryd.prog 8 #[.slice A n c, .int .i64 t] w fun e w' => e = .returned (.tuple #[.agg #[.int .i64 x.node, .int .i64 x.ver, .bool x.up], .bool true]) ∧ Below w.heap.size w w' := by
  have HL := Lib.hid hl; have HR := Lib.hid hr; have HX := Lib.hid hx; clear hl hr hx
  have hf : ∀ o, (w.alloc (.cells #[.int .i64 0, .int .i64 0, .bool false] 30)).frozen? ⟨w.heap.size, o, none⟩ = false := fun o => World.frozen?_alloc_at (w := w) _ _ w.heap.size o rfl
  obtain ⟨W1, hW1⟩ : ∃ W1, W1 = w.alloc (.cells #[.int .i64 0, .int .i64 0, .bool false] 30) := ⟨_, rfl⟩
  have hb1 : Below w.heap.size w W1 := by rw [hW1]; exact (Below.refl _ _).alloc (Nat.le_refl _) _
  have c1 : W1.cell? ⟨w.heap.size, 0, none⟩ = some (.int .i64 0) := by rw [hW1]; simp
  have c2 : W1.cell? ⟨w.heap.size, 1, none⟩ = some (.int .i64 0) := by rw [hW1]; simp
  have c3 : W1.cell? ⟨w.heap.size, 2, none⟩ = some (.bool false) := by rw [hW1]; simp
  rw [← hW1] at hf
  have f0 := hf 0; have f1 := hf 1; have f2 := hf 2
  have HW := Lib.hid hW1; have HB := Lib.hid hb1; clear hW1 hb1 hf
  go_enter Tryd.func8, Tryd.ntmps8
  go_wp2
  rw [← HW.out]
  go_loopw [6] (fun i wr => ∃ k : Nat, k ≤ n ∧ i = .int .i64 k ∧ get (l.take k) t = none ∧ wr = W1) (fun i _ => n - (intOf i).toNat)
  case atStart => exact ⟨0, by omega, rfl, rfl, rfl⟩
  case round =>
    obtain ⟨k, hk, rfl, hno, rfl⟩ := hrel
    have HNo := Lib.hid hno; clear hno
    by_cases hlt : k < n
    · obtain ⟨b, off, m, hA, hblk, hm, e1, e2, e3⟩ := HR.out.at_ HB.out (k := k) (by rw [HL.out]; omega)
      subst hA
      have HM := Lib.hid hm; clear hm
      by_cases hmt : m.node = t
      · have hmt' : (m.node == t) = true := by simpa using hmt
        have hxm : m = x := by
          have := get_take_some HNo.out HM.out hmt
          rw [HX.out] at this; cases this; rfl
        have HXm := Lib.hid hxm; have HMt := Lib.hid hmt; clear hxm hmt
        go_wp2
        rw [← HXm.out]
        refine bodyPost_ret (v := .tuple #[.agg #[.int .i64 m.node, .int .i64 m.ver, .bool m.up], .bool true]) (by simp [results, Tryd.results8, go_sem, c1, c2, c3, f0, f1, f2]) rfl ⟨rfl, ?_⟩
        exact ((HB.out.setCell (Nat.le_refl _) _).setCell (Nat.le_refl _) _).setCell (Nat.le_refl _) _
      · have hmt' : (m.node == t) = false := by simpa using hmt
        have HMt := Lib.hid hmt; clear hmt
        go_wp2
        go_roundw
        case rel => exact ⟨k + 1, by omega, by go_num, get_take_none HNo.out HM.out HMt.out, by first | rfl | trivial⟩
        case measure => simp [intOf]; omega
    · exfalso
      have h1 := HNo.out
      rw [List.take_of_length_le (by rw [HL.out]; omega), HX.out] at h1
      cases h1
theorem Member_none (A : Option Addr) (n c : Nat) (l : List Mem) (t : Int) (w : World) (hl : l.length = n) (hr : Rd w w.heap.size A l) (hn : n ≤ 1000) (hx : get l t = none) :
    Calls Tryd.prog 8 #[.slice A n c, .int .i64 t] w fun e w' => e = .returned (.tuple #[.agg #[.int .i64 0, .int .i64 0, .bool false], .bool false]) ∧ Below w.heap.size w w' := by
  have HL := Lib.hid hl; have HR := Lib.hid hr; have HX := Lib.hid hx; clear hl hr hx
  have hf : ∀ o, (w.alloc (.cells #[.int .i64 0, .int .i64 0, .bool false] 30)).frozen? ⟨w.heap.size, o, none⟩ = false := fun o => World.frozen?_alloc_at (w := w) _ _ w.heap.size o rfl
  obtain ⟨W1, hW1⟩ : ∃ W1, W1 = w.alloc (.cells #[.int .i64 0, .int .i64 0, .bool false] 30) := ⟨_, rfl⟩
  have hb1 : Below w.heap.size w W1 := by rw [hW1]; exact (Below.refl _ _).alloc (Nat.le_refl _) _
  have c1 : W1.cell? ⟨w.heap.size, 0, none⟩ = some (.int .i64 0) := by rw [hW1]; simp
  have c2 : W1.cell? ⟨w.heap.size, 1, none⟩ = some (.int .i64 0) := by rw [hW1]; simp
  have c3 : W1.cell? ⟨w.heap.size, 2, none⟩ = some (.bool false) := by rw [hW1]; simp
  rw [← hW1] at hf
  have f0 := hf 0; have f1 := hf 1; have f2 := hf 2
  have HW := Lib.hid hW1; have HB := Lib.hid hb1; clear hW1 hb1 hf
  go_enter Tryd.func8, Tryd.ntmps8
  go_wp2
  rw [← HW.out]
  go_loopw [6] (fun i wr => ∃ k : Nat, k ≤ n ∧ i = .int .i64 k ∧ wr = W1) (fun i _ => n - (intOf i).toNat)
  case atStart => exact ⟨0, by omega, rfl, rfl⟩
  case round =>
    obtain ⟨k, hk, rfl, rfl⟩ := hrel
    by_cases hlt : k < n
    · obtain ⟨b, off, m, hA, hblk, hm, e1, e2, e3⟩ := HR.out.at_ HB.out (k := k) (by rw [HL.out]; omega)
      subst hA
      have hmt : ¬ m.node = t := by
        intro e
        have h1 := HX.out
        rw [get, List.find?_eq_none] at h1
        exact h1 m (List.mem_of_getElem? hm) (by simp [e])
      have hmt' : (m.node == t) = false := by simpa using hmt
      clear hm hmt
      go_wp2
      go_roundw
      case rel => exact ⟨k + 1, by omega, by go_num, by first | rfl | trivial⟩
      case measure => simp [intOf]; omega
    · go_wp2
      refine bodyPost_ret (v := .tuple #[.agg #[.int .i64 0, .int .i64 0, .bool false], .bool false]) (by simp [results, Tryd.results8, go_sem, c1, c2, c3, f0, f1, f2]) rfl ⟨rfl, ?_⟩
      exact ((HB.out.setCell (Nat.le_refl _) _).setCell (Nat.le_refl _) _).setCell (Nat.le_refl _) _

/-- what the reference's Merge makes of nodes below k -/
def opt1 : Option Mem → List Mem | some x => [x] | none => []
def RL (a b : List Mem) : Nat → List Mem
  | 0 => []
  | k + 1 => RL a b k ++ opt1 (join (get a k) (get b k))
theorem join_node {a b : List Mem} {t : Int} {x : Mem} (h : join (get a t) (get b t) = some x) : x.node = t := by
  cases ha : get a t with
  | none => rw [ha] at h; cases hb : get b t with
    | none => rw [hb] at h; cases h
    | some y => rw [hb] at h; cases h; exact get_node hb
  | some y => rw [ha] at h; cases hb : get b t with
    | none => rw [hb] at h; cases h; exact get_node ha
    | some z =>
      rw [hb] at h; cases h
      rcases pick_or y z with e | e <;> rw [e]
      · exact get_node ha
      · exact get_node hb
theorem RL_mem {a b : List Mem} {k : Nat} {x : Mem} (h : x ∈ RL a b k) : 0 ≤ x.node ∧ x.node < k := by
  induction k with
  | zero => simp [RL] at h
  | succ k ih =>
    rw [RL, List.mem_append] at h
    rcases h with h | h
    · have := ih h; omega
    · cases hj : join (get a k) (get b k) with
      | none => rw [hj] at h; simp [opt1] at h
      | some y =>
        rw [hj] at h
        simp [opt1] at h
        subst h
        have := join_node hj
        omega
theorem RL_srt (a b : List Mem) (k : Nat) : Srt (RL a b k) := by
  induction k with
  | zero => simp [RL, Srt]
  | succ k ih =>
    rw [RL, Srt, List.pairwise_append]
    refine ⟨ih, by cases join (get a k) (get b k) <;> simp [opt1], fun x hx y hy => ?_⟩
    have h1 := RL_mem hx
    cases hj : join (get a k) (get b k) with
    | none => rw [hj] at hy; simp [opt1] at hy
    | some z =>
      rw [hj] at hy
      simp [opt1] at hy
      subst hy
      have := join_node hj
      omega
theorem get_append (l l' : List Mem) (t : Int) : get (l ++ l') t = (get l t).or (get l' t) := by rw [get, List.find?_append]; rfl
theorem RL_get (a b : List Mem) (k : Nat) (t : Int) : get (RL a b k) t = if 0 ≤ t ∧ t < k then join (get a t) (get b t) else none := by
  induction k with
  | zero => rw [if_neg (by omega)]; rfl
  | succ k ih =>
    rw [RL, get_append, ih]
    by_cases ht : t = k
    · subst ht
      rw [if_neg (by omega), if_pos (by omega)]
      cases hj : join (get a (k : Int)) (get b (k : Int)) with
      | none => rfl
      | some x => have := join_node hj; simp [opt1, get, this]
    · have e : get (opt1 (join (get a k) (get b k))) t = none := by
        cases hj : join (get a k) (get b k) with
        | none => rfl
        | some x => have := join_node hj; exact get_none_of fun m hm => by simp [opt1] at hm; subst hm; omega
      rw [e]
      by_cases h : 0 ≤ t ∧ t < k
      · rw [if_pos h, if_pos (by omega)]; cases join (get a t) (get b t) <;> rfl
      · rw [if_neg h, if_neg (by omega)]; rfl
theorem RL_merge {a b : List Mem} (ha : Valid a) (hb : Valid b) : RL a b 16 = mergeL a b :=
  ext (RL_srt a b 16) (srt_mergeL b ha.1) fun t => by
    rw [RL_get, get_mergeL b ha.1 hb.1]
    by_cases h : 0 ≤ t ∧ t < (16 : Nat)
    · rw [if_pos h]
    · rw [if_neg h]
      have h1 : get a t = none := get_none_of fun m hm e => by have := ha.2 m hm; unfold okM at this; omega
      have h2 : get b t = none := get_none_of fun m hm e => by have := hb.2 m hm; unfold okM at this; omega
      rw [h1, h2]; rfl
theorem RL_length (a b : List Mem) (k : Nat) : (RL a b k).length ≤ k := by
  induction k with
  | zero => simp [RL]
  | succ k ih => rw [RL, List.length_append]; have : (opt1 (join (get a k) (get b k))).length ≤ 1 := by cases join (get a k) (get b k) <;> simp [opt1]
                 omega
end Go.Proofs.YtachfnmbhhppbaaDoor
