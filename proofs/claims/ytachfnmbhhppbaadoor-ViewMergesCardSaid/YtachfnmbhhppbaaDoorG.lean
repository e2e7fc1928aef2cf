/- Members, both, Alive. -/
import Derived.Test.YtachfnmbhhppbaaDoorF
import Derived.Laws.StructEq
namespace Go.Proofs.YtachfnmbhhppbaaDoor
set_option maxRecDepth 100000
open Go.RowKit
theorem run_eq_mem (n1 v1 n2 v2 : Int) (u1 u2 : Bool) (w : World) :
    (Op.equalIn 10000 30 (.agg #[.int .i64 n1, .int .i64 v1, .bool u1]) (.agg #[.int .i64 n2, .int .i64 v2, .bool u2])).run Tryd.prog w = .ok (n1 == n2 && (v1 == v2 && u1 == u2)) w := by
  have hp : Tryd.prog.stoodInHeld 30 = false := by kernel_rfl
  rw [show (10000 : Nat) = 9999 + 1 from rfl]
  go_simp
  (repeat' split) <;> simp_all
theorem run_ne_mem (n1 v1 n2 v2 : Int) (u1 u2 b : Bool) (w : World) (h : (n1 == n2 && (v1 == v2 && u1 == u2)) = !b) :
    (binOp .neq 30 (.agg #[.int .i64 n1, .int .i64 v1, .bool u1]) (.agg #[.int .i64 n2, .int .i64 v2, .bool u2])).run Tryd.prog w = .ok (.bool b) w := by
  rw [run_neq_struct, run_eq_mem, h]
  simp [Result.andThen]

theorem ret_b {a b : Bool} (h : b = a) : Ending.returned (.bool a) = .returned (.bool b) := by rw [h]
theorem take_more (l l' : List Mem) (k : Nat) (m m' : Mem) (h : l[k]? = some m) (h' : l'[k]? = some m') (e : m = m') (ht : l.take k = l'.take k) : l.take (k + 1) = l'.take (k + 1) := by
  obtain ⟨h1, h2⟩ := List.getElem?_eq_some_iff.1 h
  obtain ⟨h3, h4⟩ := List.getElem?_eq_some_iff.1 h'
  rw [List.take_succ_eq_append_getElem h1, List.take_succ_eq_append_getElem h3, ht, h2, h4, e]
theorem take_less (l l' : List Mem) (k : Nat) (m m' : Mem) (h : l[k]? = some m) (h' : l'[k]? = some m') (e : ¬ m = m') : ¬ l = l' := by
  rintro rfl
  rw [h] at h'; cases h'; exact e rfl
theorem take_all (l l' : List Mem) (k n : Nat) (h : l.length = n) (h' : l'.length = n) (hk : n ≤ k) (ht : l.take k = l'.take k) : l = l' := by
  rwa [List.take_of_length_le (by omega), List.take_of_length_le (by omega)] at ht

theorem Members_any (A B : Option Addr) (n c n' c' : Nat) (l l' : List Mem) (w : World) (hl : l.length = n) (hl' : l'.length = n') (hr : Rd w w.heap.size A l) (hr' : Rd w w.heap.size B l') (hn : n ≤ 1000) (hn' : n' ≤ 1000) :
    Calls Tryd.prog 11 #[.slice A n c, .slice B n' c'] w fun e w' => e = .returned (.bool (decide (l = l'))) ∧ Below w.heap.size w w' := by
  by_cases hnn : n = n'
  · subst hnn
    have HL := Lib.hid hl; have HL' := Lib.hid hl'; have HR := Lib.hid hr; have HR' := Lib.hid hr'
    clear hl hl' hr hr'
    go_enter Tryd.func11, Tryd.ntmps11
    go_wp2
    go_loopw [5] (fun i wr => ∃ k : Nat, k ≤ n ∧ i = .int .i64 k ∧ l.take k = l'.take k ∧ Below w.heap.size w wr) (fun i _ => n - (intOf i).toNat)
    case atStart => exact ⟨0, by omega, rfl, rfl, Below.refl _ _⟩
    case round =>
      obtain ⟨k, hk, rfl, heq, hb⟩ := hrel
      have HE := Lib.hid heq; clear heq
      by_cases hlt : k < n
      · obtain ⟨b, off, m, hA, hblk, hm, e1, e2, e3⟩ := HR.out.at_ hb (k := k) (by rw [HL.out]; omega)
        obtain ⟨b', off', m', hA', hblk', hm', f1, f2, f3⟩ := HR'.out.at_ hb (k := k) (by rw [HL'.out]; omega)
        subst hA; subst hA'
        have HM := Lib.hid hm; have HM' := Lib.hid hm'; clear hm hm'
        by_cases hmm : m = m'
        · have hne := fun w => run_ne_mem m.node m.ver m'.node m'.ver m.up m'.up false w (by rw [hmm]; simp)
          have HMM := Lib.hid hmm; clear hmm
          go_wp2_with fail
          go_quiet (fail)
          go_wp2
          go_roundw
          case rel => exact ⟨k + 1, by omega, by go_num, take_more l l' k m m' HM.out HM'.out HMM.out HE.out, below_drewN hb _⟩
          case measure => simp [intOf]; omega
        · have hne := fun w => run_ne_mem m.node m.ver m'.node m'.ver m.up m'.up true w (by cases m; cases m'; simp at hmm ⊢; simpa using hmm)
          have HMM := Lib.hid hmm; clear hmm
          go_wp2_with fail
          go_quiet (fail)
          go_wp2
          go_ret
          exact ⟨ret_b (by simp only [decide_eq_false_iff_not]; exact take_less l l' k m m' HM.out HM'.out HMM.out), below_drewN hb _⟩
      · go_wp2
        go_ret
        exact ⟨ret_b (by simp only [decide_eq_true_eq]; exact take_all l l' k n HL.out HL'.out (by omega) HE.out), hb⟩
  · have hnn' : ((n : Int) != (n' : Int)) = true := by rw [bne_iff_ne]; omega
    go_enter Tryd.func11, Tryd.ntmps11
    go_wp2
    go_ret
    exact ⟨ret_b (by simp only [decide_eq_false_iff_not]; intro e; rw [e] at hl; omega), Below.refl _ _⟩

/-- which error both views have -/
def bothErr (a b : List Mem) : Int := if viewErr a = 0 then viewErr b else viewErr a

theorem Check_ok (A : Option Addr) (n c : Nat) (l : List Mem) (w : World) (hl : l.length = n) (hr : Rd w w.heap.size A l) (hn : n ≤ 9223372036854775807) (h : viewErr l = 0) :
    Calls Tryd.prog 6 #[.slice A n c] w fun e w' => e = .returned .nilIface ∧ Below w.heap.size w w' :=
  (Check_any A n c l w hl hr hn).mono fun e w' ⟨h1, h2⟩ => ⟨by rw [h1, h]; rfl, h2⟩
theorem Check_bad (A : Option Addr) (n c : Nat) (l : List Mem) (w : World) (hl : l.length = n) (hr : Rd w w.heap.size A l) (hn : n ≤ 9223372036854775807) (h : viewErr l ≠ 0) :
    Calls Tryd.prog 6 #[.slice A n c] w fun e w' => e = .returned (.iface 42 (.int .i64 (viewErr l))) ∧ Below w.heap.size w w' :=
  (Check_any A n c l w hl hr hn).mono fun e w' ⟨h1, h2⟩ => ⟨by rw [h1, errV, if_neg h], h2⟩

theorem both_ok (A B : Option Addr) (n c n' c' : Nat) (l l' : List Mem) (w : World) (hl : l.length = n) (hl' : l'.length = n') (hr : Rd w w.heap.size A l) (hr' : Rd w w.heap.size B l') (hn : n ≤ 9223372036854775807) (hn' : n' ≤ 9223372036854775807) (h : viewErr l = 0) (h' : viewErr l' = 0) :
    Calls Tryd.prog 17 #[.slice A n c, .slice B n' c'] w fun e w' => e = .returned .nilIface ∧ Below w.heap.size w w' := by
  have HL := Lib.hid hl; have HL' := Lib.hid hl'; have HR := Lib.hid hr; have HR' := Lib.hid hr'; have H := Lib.hid h; have H' := Lib.hid h'
  clear hl hl' hr hr' h h'
  go_enter Tryd.func17, Tryd.ntmps17
  go_wp2_with fail
  refine (Check_ok A n c l _ HL.out HR.out hn H.out).mono ?_
  rintro e w1 ⟨rfl, hb1⟩
  go_wp2_with fail
  refine (Check_ok B n' c' l' _ HL'.out ((HR'.out.below hb1).more hb1.size) hn' H'.out).mono ?_
  rintro e w2 ⟨rfl, hb2⟩
  go_wp2
  go_ret
  exact ⟨rfl, hb1.trans (hb2.mono hb1.size)⟩
theorem both_bad (A B : Option Addr) (n c n' c' : Nat) (l l' : List Mem) (w : World) (hl : l.length = n) (hl' : l'.length = n') (hr : Rd w w.heap.size A l) (hr' : Rd w w.heap.size B l') (hn : n ≤ 9223372036854775807) (hn' : n' ≤ 9223372036854775807) (h : bothErr l l' ≠ 0) :
    Calls Tryd.prog 17 #[.slice A n c, .slice B n' c'] w fun e w' => e = .returned (.iface 42 (.int .i64 (bothErr l l'))) ∧ Below w.heap.size w w' := by
  have HL := Lib.hid hl; have HL' := Lib.hid hl'; have HR := Lib.hid hr; have HR' := Lib.hid hr'; have H := Lib.hid h
  clear hl hl' hr hr' h
  by_cases h0 : viewErr l = 0
  · have H0 := Lib.hid h0; clear h0
    have e : bothErr l l' = viewErr l' := by rw [bothErr, if_pos H0.out]
    rw [e] at H ⊢
    clear e
    go_enter Tryd.func17, Tryd.ntmps17
    go_wp2_with fail
    refine (Check_ok A n c l _ HL.out HR.out hn H0.out).mono ?_
    rintro e w1 ⟨rfl, hb1⟩
    go_wp2_with fail
    refine (Check_bad B n' c' l' _ HL'.out ((HR'.out.below hb1).more hb1.size) hn' H.out).mono ?_
    rintro e w2 ⟨rfl, hb2⟩
    go_wp2
    go_ret
    exact ⟨rfl, hb1.trans (hb2.mono hb1.size)⟩
  · have H0 := Lib.hid h0; clear h0
    have e : bothErr l l' = viewErr l := by rw [bothErr, if_neg H0.out]
    rw [e] at H ⊢
    clear e
    go_enter Tryd.func17, Tryd.ntmps17
    go_wp2_with fail
    refine (Check_bad A n c l _ HL.out HR.out hn H0.out).mono ?_
    rintro e w1 ⟨rfl, hb1⟩
    go_wp2
    go_ret
    exact ⟨rfl, hb1⟩
end Go.Proofs.YtachfnmbhhppbaaDoor
