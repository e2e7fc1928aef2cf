/- pack.Check. -/
import Derived.Test.YtnndbnecgaelkaaDoorM
namespace Go.Proofs.YtnndbnecgaelkaaDoor
set_option maxRecDepth 100000
open Go.RowKit

set_option maxHeartbeats 2000000 in
theorem Check_any (p : Pk) (w : World) : Calls Tryd.prog 19 #[.agg #[.int .i64 p.seq, .int .i64 p.time, .int .i64 p.layer, .int .i64 p.level, .bool p.start, .slice p.A p.n p.c]] w fun e w' => e = .returned (errT (chkP p)) ∧ Below w.heap.size w w' := by
  by_cases hs : p.seq < 0 ∨ 65535 < p.seq
  · have HE := Lib.hid (chkP_bad (p := p) (by unfold badP; omega))
    go_enter Tryd.func19, Tryd.ntmps19
    go_wp2_with fail
    refine (Seq_no _ _ (by omega)).mono ?_
    rintro e w1 ⟨rfl, rfl⟩
    go_wp2
    go_ret
    exact ⟨by rw [HE.out]; rfl, (Below.refl _ _).alloc (Nat.le_refl _) _⟩
  · by_cases t0 : p.time < 0
    · have HE := Lib.hid (chkP_bad (p := p) (by unfold badP; omega))
      go_enter Tryd.func19, Tryd.ntmps19
      go_wp2_with fail
      refine (Seq_yes _ _ (by omega) (by omega)).mono ?_
      rintro e w1 ⟨rfl, rfl⟩
      go_wp2
      go_ret
      exact ⟨by rw [HE.out]; rfl, (Below.refl _ _).alloc (Nat.le_refl _) _⟩
    · have t0' : decide (p.time < 0) = false := by simpa using t0
      by_cases t1 : 4294967295 < p.time
      · have HE := Lib.hid (chkP_bad (p := p) (by unfold badP; omega))
        go_enter Tryd.func19, Tryd.ntmps19
        go_wp2_with fail
        refine (Seq_yes _ _ (by omega) (by omega)).mono ?_
        rintro e w1 ⟨rfl, rfl⟩
        go_wp2
        go_ret
        exact ⟨by rw [HE.out]; rfl, (Below.refl _ _).alloc (Nat.le_refl _) _⟩
      · have t1' : decide (4294967295 < p.time) = false := by simpa using t1
        by_cases l0 : p.layer < 0
        · have HE := Lib.hid (chkP_bad (p := p) (by unfold badP; omega))
          go_enter Tryd.func19, Tryd.ntmps19
          go_wp2_with fail
          refine (Seq_yes _ _ (by omega) (by omega)).mono ?_
          rintro e w1 ⟨rfl, rfl⟩
          go_wp2
          go_ret
          exact ⟨by rw [HE.out]; rfl, (Below.refl _ _).alloc (Nat.le_refl _) _⟩
        · have l0' : decide (p.layer < 0) = false := by simpa using l0
          by_cases l1 : 3 < p.layer
          · have HE := Lib.hid (chkP_bad (p := p) (by unfold badP; omega))
            go_enter Tryd.func19, Tryd.ntmps19
            go_wp2_with fail
            refine (Seq_yes _ _ (by omega) (by omega)).mono ?_
            rintro e w1 ⟨rfl, rfl⟩
            go_wp2
            go_ret
            exact ⟨by rw [HE.out]; rfl, (Below.refl _ _).alloc (Nat.le_refl _) _⟩
          · have l1' : decide (3 < p.layer) = false := by simpa using l1
            by_cases v0 : p.level < 0
            · have HE := Lib.hid (chkP_bad (p := p) (by unfold badP; omega))
              go_enter Tryd.func19, Tryd.ntmps19
              go_wp2_with fail
              refine (Seq_yes _ _ (by omega) (by omega)).mono ?_
              rintro e w1 ⟨rfl, rfl⟩
              go_wp2
              go_ret
              exact ⟨by rw [HE.out]; rfl, (Below.refl _ _).alloc (Nat.le_refl _) _⟩
            · have v0' : decide (p.level < 0) = false := by simpa using v0
              by_cases v1 : 127 < p.level
              · have HE := Lib.hid (chkP_bad (p := p) (by unfold badP; omega))
                go_enter Tryd.func19, Tryd.ntmps19
                go_wp2_with fail
                refine (Seq_yes _ _ (by omega) (by omega)).mono ?_
                rintro e w1 ⟨rfl, rfl⟩
                go_wp2
                go_ret
                exact ⟨by rw [HE.out]; rfl, (Below.refl _ _).alloc (Nat.le_refl _) _⟩
              · have v1' : decide (127 < p.level) = false := by simpa using v1
                have hnb : ¬ badP p := by unfold badP; omega
                by_cases hn : 1000 < p.n
                · have HE : Hid (chkP p = 4) := Lib.hid (by rw [chkP, if_neg hnb, if_pos hn])
                  clear hnb
                  go_enter Tryd.func19, Tryd.ntmps19
                  go_wp2_with fail
                  refine (Seq_yes _ _ (by omega) (by omega)).mono ?_
                  rintro e w1 ⟨rfl, rfl⟩
                  go_wp2
                  go_ret
                  exact ⟨by rw [HE.out]; rfl, (Below.refl _ _).alloc (Nat.le_refl _) _⟩
                · have HE : Hid (chkP p = 0) := Lib.hid (by rw [chkP, if_neg hnb, if_neg hn])
                  clear hnb
                  go_enter Tryd.func19, Tryd.ntmps19
                  go_wp2_with fail
                  refine (Seq_yes _ _ (by omega) (by omega)).mono ?_
                  rintro e w1 ⟨rfl, rfl⟩
                  go_wp2
                  go_ret
                  exact ⟨by rw [HE.out]; rfl, (Below.refl _ _).alloc (Nat.le_refl _) _⟩
end Go.Proofs.YtnndbnecgaelkaaDoor
