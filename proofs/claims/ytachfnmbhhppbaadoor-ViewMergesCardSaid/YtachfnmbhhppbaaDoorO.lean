/- The references: View, Merge; Ints. -/
import Derived.Test.YtachfnmbhhppbaaDoorN
namespace Go.Proofs.YtachfnmbhhppbaaDoor
set_option maxRecDepth 100000
open Go.RowKit

theorem ret_i {a b : Int} (h : b = a) : Ending.returned (.int .i64 a) = .returned (.int .i64 b) := by rw [h]

set_option maxHeartbeats 800000 in
theorem View_any (A : Option Addr) (n c : Nat) (l : List Mem) (w : World) (hl : l.length = n) (hr : Rd w w.heap.size A l) (hn : n ≤ 9223372036854775807) :
    Calls Tryd.prog 4 #[.slice A n c] w fun e w' => e = .returned (.int .i64 (viewErr l)) ∧ Below w.heap.size w w' := by
  have HL := Lib.hid hl; clear hl
  by_cases h16 : 16 < n
  · go_enter Tryd.func4, Tryd.ntmps4
    go_wp2
    go_ret
    exact ⟨ret_i (by simp [viewErr, HL.out, h16]), Below.refl _ _⟩
  · have h16' : decide ((16 : Int) < (n : Int)) = false := by simp; omega
    have h16n : n ≤ 16 := by omega
    have HR := Lib.hid hr; clear hr
    go_enter Tryd.func4, Tryd.ntmps4
    go_wp2
    go_loopw [3] (fun i wr => ∃ k : Nat, k ≤ n ∧ i = .int .i64 k ∧ chkL none l = chkL (prev l k) (l.drop k) ∧ Below w.heap.size w wr) (fun i _ => n - (intOf i).toNat)
    case atStart => exact ⟨0, by omega, rfl, rfl, Below.refl _ _⟩
    case round =>
      obtain ⟨k, hk, rfl, hchk, hb⟩ := hrel
      have HC := Lib.hid hchk; clear hchk
      by_cases hlt : k < n
      · obtain ⟨b, off, m, hA, hblk, hm, e1, e2, e3⟩ := HR.out.at_ hb (k := k) (by rw [HL.out]; omega)
        subst hA
        have HM := Lib.hid hm; clear hm
        have HS := Lib.hid (drop_at l k m HM.out)
        by_cases hn0 : m.node < 0
        · go_wp2
          go_ret
          exact ⟨ret_i (by rw [viewErr_bad1 l k m n HL.out h16n HC.out HS.out (by omega)]), hb.alloc hb.size _⟩
        · by_cases hn1 : 15 < m.node
          · have hn0' : decide (m.node < 0) = false := by simp; omega
            go_wp2
            go_ret
            exact ⟨ret_i (by rw [viewErr_bad1 l k m n HL.out h16n HC.out HS.out (by omega)]), hb.alloc hb.size _⟩
          · have hn0' : decide (m.node < 0) = false := by simp; omega
            have hn1' : decide (15 < m.node) = false := by simp; omega
            by_cases hv1 : m.ver < 1
            · go_wp2
              go_ret
              exact ⟨ret_i (by rw [viewErr_bad1 l k m n HL.out h16n HC.out HS.out (by omega)]), hb.alloc hb.size _⟩
            · have hv1' : decide (m.ver < 1) = false := by simp; omega
              by_cases hv2 : 1000000 < m.ver
              · go_wp2
                go_ret
                exact ⟨ret_i (by rw [viewErr_bad1 l k m n HL.out h16n HC.out HS.out (by omega)]), hb.alloc hb.size _⟩
              · have hv2' : decide (1000000 < m.ver) = false := by simp; omega
                by_cases hk0 : 0 < k
                · obtain ⟨b', off', q, hA', _, hq, f1, _, _⟩ := HR.out.at_ hb (k := k - 1) (by rw [HL.out]; omega)
                  cases hA'
                  have hbw : b < wr.heap.size := by have := hb.size; omega
                  have f1' := (World.cell?_alloc_lt wr (Obj.cells #[Value.int IntKind.i64 m.node, Value.int IntKind.i64 m.ver, Value.bool m.up] 30) ⟨b, off + (k - 1) * 3, none⟩ hbw).trans f1
                  have HQ := Lib.hid hq; clear hq
                  by_cases hle : m.node ≤ q.node
                  · go_wp2_with fail
                    have g1 : IntKind.i64.wrap ((k : Int) - 1) = (k : Int) - 1 := IntWalk.i64_in _ (by omega)
                    have g2 : (0 : Int) ≤ (k : Int) - 1 := by omega
                    have g3 : ((k : Int) - 1).toNat = k - 1 := by omega
                    have g4 : (k : Int) - 1 < (n : Int) := by omega
                    have g5 : (1 : Int) ≤ (k : Int) := by omega
                    go_quiet (fail)
                    clear g1 g2 g3 g4 g5
                    go_wp2
                    go_ret
                    exact ⟨ret_i (by rw [viewErr_bad3 l k m q n HL.out h16n HC.out HS.out HQ.out (by omega) (by omega) (by omega)]), below_drewN (hb.alloc hb.size _) _⟩
                  · go_wp2_with fail
                    have g1 : IntKind.i64.wrap ((k : Int) - 1) = (k : Int) - 1 := IntWalk.i64_in _ (by omega)
                    have g2 : (0 : Int) ≤ (k : Int) - 1 := by omega
                    have g3 : ((k : Int) - 1).toNat = k - 1 := by omega
                    have g4 : (k : Int) - 1 < (n : Int) := by omega
                    have g5 : (1 : Int) ≤ (k : Int) := by omega
                    go_quiet (fail)
                    clear g1 g2 g3 g4 g5
                    go_wp2
                    go_roundw
                    case rel => exact ⟨k + 1, by omega, by go_num, viewErr_go l k m n HC.out HS.out (Or.inr ⟨q, HQ.out, by omega, by omega⟩) (by omega), below_drewN (hb.alloc hb.size _) _⟩
                    case measure => simp [intOf]; omega
                · have hk0' : decide ((0 : Int) < (k : Int)) = false := by simp; omega
                  go_wp2_with fail
                  go_quiet (fail)
                  go_wp2
                  go_roundw
                  case rel => exact ⟨k + 1, by omega, by go_num, viewErr_go l k m n HC.out HS.out (Or.inl (by omega)) (by omega), below_drewN (hb.alloc hb.size _) _⟩
                  case measure => simp [intOf]; omega
      · go_wp2
        go_ret
        exact ⟨ret_i (by rw [viewErr_end l k n HL.out h16n HC.out (by omega)]), hb⟩
end Go.Proofs.YtachfnmbhhppbaaDoor
