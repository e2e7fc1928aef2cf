/- Check. -/
import Derived.Test.YtachfnmbhhppbaaDoorA
import Derived.Test.YtachfnmbhhppbaaDoorM
namespace Go.Proofs.YtachfnmbhhppbaaDoor
set_option maxRecDepth 100000
open Go.RowKit

/-- the node ahead of place k -/
def prev (l : List Mem) (k : Nat) : Option Int := if k = 0 then none else (l[k - 1]?).map (·.node)

theorem drop_at (l : List Mem) (k : Nat) (m : Mem) (h : l[k]? = some m) : l.drop k = m :: l.drop (k + 1) := by
  obtain ⟨h1, h2⟩ := List.getElem?_eq_some_iff.1 h
  rw [List.drop_eq_getElem_cons h1, h2]
theorem viewErr_end (l : List Mem) (k n : Nat) (hl : l.length = n) (hn : n ≤ 16) (h : chkL none l = chkL (prev l k) (l.drop k)) (hk : n ≤ k) : viewErr l = 0 := by
  rw [viewErr, if_neg (by omega), h, List.drop_of_length_le (by omega)]
  rfl
theorem viewErr_bad1 (l : List Mem) (k : Nat) (m : Mem) (n : Nat) (hl : l.length = n) (hn : n ≤ 16) (h : chkL none l = chkL (prev l k) (l.drop k)) (hs : l.drop k = m :: l.drop (k + 1))
    (hb : m.node < 0 ∨ 16 ≤ m.node ∨ m.ver < 1 ∨ 1000000 < m.ver) : viewErr l = 1 := by
  have h1 : chk1 (prev l k) m = 1 := by unfold chk1; rw [if_pos hb]
  rw [viewErr, if_neg (by omega), h, hs, chkL, h1]
  rfl
theorem prev_at (l : List Mem) (k : Nat) (q : Mem) (hk : 0 < k) (hq : l[k - 1]? = some q) : prev l k = some q.node := by
  rw [prev, if_neg (by omega), hq]; rfl
theorem viewErr_bad3 (l : List Mem) (k : Nat) (m q : Mem) (n : Nat) (hl : l.length = n) (hn : n ≤ 16) (h : chkL none l = chkL (prev l k) (l.drop k)) (hs : l.drop k = m :: l.drop (k + 1)) (hq : l[k - 1]? = some q) (hk : 0 < k)
    (hb : ¬ (m.node < 0 ∨ 16 ≤ m.node ∨ m.ver < 1 ∨ 1000000 < m.ver)) (hle : m.node ≤ q.node) : viewErr l = 3 := by
  have h1 : chk1 (prev l k) m = 3 := by unfold chk1; rw [if_neg hb, prev_at l k q hk hq]; simp [hle]
  rw [viewErr, if_neg (by omega), h, hs, chkL, h1]
  rfl
theorem viewErr_go (l : List Mem) (k : Nat) (m : Mem) (n : Nat) (h : chkL none l = chkL (prev l k) (l.drop k)) (hs : l.drop k = m :: l.drop (k + 1))
    (hq : k = 0 ∨ ∃ q, l[k - 1]? = some q ∧ 0 < k ∧ ¬ m.node ≤ q.node) (hb : ¬ (m.node < 0 ∨ 16 ≤ m.node ∨ m.ver < 1 ∨ 1000000 < m.ver)) : chkL none l = chkL (prev l (k + 1)) (l.drop (k + 1)) := by
  have h1 : chk1 (prev l k) m = 0 := by
    unfold chk1; rw [if_neg hb]
    rcases hq with rfl | ⟨q, hq, hk, hlt⟩
    · rfl
    · rw [prev_at l k q hk hq]; simp [hlt]
  have h2 : l[k]? = some m := by
    have : (l.drop k)[0]? = some m := by rw [hs]; rfl
    simpa using this
  rw [h, hs, chkL, h1, if_pos rfl, prev_at l (k + 1) m (by omega) (by simpa using h2)]

theorem Check_any (A : Option Addr) (n c : Nat) (l : List Mem) (w : World) (hl : l.length = n) (hr : Rd w w.heap.size A l) (hn : n ≤ 9223372036854775807) :
    Calls Tryd.prog 6 #[.slice A n c] w fun e w' => e = .returned (errV (viewErr l)) ∧ Below w.heap.size w w' := by
  have HL := Lib.hid hl; clear hl
  by_cases h16 : 16 < n
  · go_enter Tryd.func6, Tryd.ntmps6
    go_wp2
    go_ret
    exact ⟨by simp [viewErr, errV, HL.out, h16], Below.refl _ _⟩
  · have h16' : decide ((16 : Int) < (n : Int)) = false := by simp; omega
    have h16n : n ≤ 16 := by omega
    have HR := Lib.hid hr; clear hr
    go_enter Tryd.func6, Tryd.ntmps6
    go_wp2
    go_loopw [11] (fun i wr => ∃ k : Nat, k ≤ n ∧ i = .int .i64 k ∧ chkL none l = chkL (prev l k) (l.drop k) ∧ Below w.heap.size w wr) (fun i _ => n - (intOf i).toNat)
    case atStart => exact ⟨0, by omega, rfl, rfl, Below.refl _ _⟩
    case round =>
      obtain ⟨k, hk, rfl, hchk, hb⟩ := hrel
      have HC := Lib.hid hchk; clear hchk
      by_cases hlt : k < n
      · obtain ⟨b, off, m, hA, hblk, hm, e1, e2, e3⟩ := HR.out.at_ hb (k := k) (by rw [HL.out]; omega)
        subst hA
        have HM := Lib.hid hm; clear hm
        have HS := Lib.hid (drop_at l k m HM.out)
        by_cases hnd : 0 ≤ m.node ∧ m.node < 16
        · obtain ⟨hn0, hn1⟩ := hnd
          by_cases hv1 : m.ver < 1
          · go_wp2_with (go_at_call 16; refine (node_yes _ _ hn0 hn1).mono ?_; rintro e w' ⟨rfl, rfl⟩)
            go_ret
            exact ⟨by rw [viewErr_bad1 l k m n HL.out h16n HC.out HS.out (by omega)]; rfl, hb.alloc hb.size _⟩
          · by_cases hv2 : 1000000 < m.ver
            · go_wp2_with (go_at_call 16; refine (node_yes _ _ hn0 hn1).mono ?_; rintro e w' ⟨rfl, rfl⟩)
              go_ret
              exact ⟨by rw [viewErr_bad1 l k m n HL.out h16n HC.out HS.out (by omega)]; rfl, hb.alloc hb.size _⟩
            · by_cases hk0 : 0 < k
              · obtain ⟨b', off', q, hA', _, hq, f1, _, _⟩ := HR.out.at_ hb (k := k - 1) (by rw [HL.out]; omega)
                cases hA'
                have hbw : b < wr.heap.size := by have := hb.size; omega
                have f1' := (World.cell?_alloc_lt wr (Obj.cells #[Value.int IntKind.i64 m.node, Value.int IntKind.i64 m.ver, Value.bool m.up] 30) ⟨b, off + (k - 1) * 3, none⟩ hbw).trans f1
                have HQ := Lib.hid hq; clear hq
                by_cases hle : m.node ≤ q.node
                · go_wp2_with (go_at_call 16; refine (node_yes _ _ hn0 hn1).mono ?_; rintro e w' ⟨rfl, rfl⟩)
                  have g1 : IntKind.i64.wrap ((k : Int) - 1) = (k : Int) - 1 := IntWalk.i64_in _ (by omega)
                  have g2 : (0 : Int) ≤ (k : Int) - 1 := by omega
                  have g3 : ((k : Int) - 1).toNat = k - 1 := by omega
                  have g4 : (k : Int) - 1 < (n : Int) := by omega
                  have g5 : (1 : Int) ≤ (k : Int) := by omega
                  go_quiet (fail)
                  clear g1 g2 g3 g4 g5
                  go_wp2
                  go_ret
                  exact ⟨by rw [viewErr_bad3 l k m q n HL.out h16n HC.out HS.out HQ.out (by omega) (by omega) (by omega)]; rfl, below_drewN (hb.alloc hb.size _) _⟩
                · go_wp2_with (go_at_call 16; refine (node_yes _ _ hn0 hn1).mono ?_; rintro e w' ⟨rfl, rfl⟩)
                  have g1 : IntKind.i64.wrap ((k : Int) - 1) = (k : Int) - 1 := IntWalk.i64_in _ (by omega)
                  have g2 : (0 : Int) ≤ (k : Int) - 1 := by omega
                  have g3 : ((k : Int) - 1).toNat = k - 1 := by omega
                  have g4 : (k : Int) - 1 < (n : Int) := by omega
                  have g5 : (1 : Int) ≤ (k : Int) := by omega
                  go_quiet (fail)
                  clear g1 g2 g3 g4 g5
                  go_wp2
                  go_roundw
                  case rel => exact ⟨k + 1, by omega, by go_num, viewErr_go l k m n HC.out HS.out (Or.inr ⟨q, HQ.out, by omega, by omega⟩) (by omega), below_drewN (hb.alloc hb.size _) _⟩
                  case measure => simp [intOf]; omega
              · have hk0' : decide ((0 : Int) < (k : Int)) = false := by simp; omega
                go_wp2_with (go_at_call 16; refine (node_yes _ _ hn0 hn1).mono ?_; rintro e w' ⟨rfl, rfl⟩)
                go_quiet (fail)
                go_wp2
                go_roundw
                case rel => exact ⟨k + 1, by omega, by go_num, viewErr_go l k m n HC.out HS.out (Or.inl (by omega)) (by omega), below_drewN (hb.alloc hb.size _) _⟩
                case measure => simp [intOf]; omega
        · go_wp2_with (go_at_call 16; refine (node_no _ _ hnd).mono ?_; rintro e w' ⟨rfl, rfl⟩)
          go_ret
          exact ⟨by rw [viewErr_bad1 l k m n HL.out h16n HC.out HS.out (by omega)]; rfl, hb.alloc hb.size _⟩
      · go_wp2
        go_ret
        exact ⟨by rw [viewErr_end l k n HL.out h16n HC.out (by omega)]; rfl, hb⟩
end Go.Proofs.YtachfnmbhhppbaaDoor
