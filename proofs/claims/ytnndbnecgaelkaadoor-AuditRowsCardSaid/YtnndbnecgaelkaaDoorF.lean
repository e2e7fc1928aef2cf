/- audit.Row. -/
import Derived.Test.YtnndbnecgaelkaaDoorE
namespace Go.Proofs.YtnndbnecgaelkaaDoor
set_option maxRecDepth 100000
open Go.RowKit

theorem Check_ok (p : Pk) (w : World) (h : chkP p = 0) : Calls Tryd.prog 19 #[.agg #[.int .i64 p.seq, .int .i64 p.time, .int .i64 p.layer, .int .i64 p.level, .bool p.start, .slice p.A p.n p.c]] w fun e w' => e = .returned .nilIface ∧ Below w.heap.size w w' :=
  (Check_any p w).mono fun e w' ⟨h1, h2⟩ => ⟨by rw [h1, h]; rfl, h2⟩
theorem chkP_zero {p : Pk} (h : chkP p = 0) : ¬ badP p ∧ p.n ≤ 1000 := by
  unfold chkP at h
  by_cases hb : badP p
  · rw [if_pos hb] at h; cases h
  · rw [if_neg hb] at h
    by_cases hn : 1000 < p.n
    · rw [if_pos hn] at h; cases h
    · exact ⟨hb, by omega⟩
theorem chkP_seq {p : Pk} (h : chkP p = 0) : 0 ≤ p.seq ∧ p.seq ≤ 65535 := by
  have := (chkP_zero h).1; unfold badP at this; omega

set_option maxHeartbeats 2000000 in
theorem Row_ok (A : Option Addr) (n c : Nat) (g : List Pk) (w : World) (hl : g.length = n) (hr : RdP w w.heap.size A g) (hn : n ≤ 1000) (hch : ∀ p ∈ g, chkP p = 0) (hrow : ∀ (k : Nat) p q, g[k]? = some p → g[k + 1]? = some q → q.seq = (p.seq + 1) % 65536) :
    Calls Tryd.prog 5 #[.slice A n c] w fun e w' => e = .returned (.tuple #[.int .i64 0, .nilIface]) ∧ Below w.heap.size w w' := by
  have HL := Lib.hid hl; have HR := Lib.hid hr; have HC := Lib.hid hch; have HW := Lib.hid hrow
  clear hl hr hch hrow
  have hn1 : decide ((1000 : Int) < (n : Int)) = false := by simp; omega
  go_enter Tryd.func5, Tryd.ntmps5
  go_wp2
  go_loopw [13] (fun i wr => ∃ k : Nat, k ≤ n ∧ i = .int .i64 k ∧ Below w.heap.size w wr) (fun i _ => n - (intOf i).toNat)
  case atStart => exact ⟨0, by omega, rfl, Below.refl _ _⟩
  case round =>
    obtain ⟨k, hk, rfl, hb⟩ := hrel
    by_cases hlt : k < n
    · obtain ⟨bg, og, p, hAg, hbg, hp, p0, p1, p2, p3, p4, p5, pb⟩ := HR.out.at_ hb (k := k) (by rw [HL.out]; omega)
      have HB := Lib.hid hb; have HSz := Lib.hid hb.size
      have hbr : bg < wr.heap.size := Nat.lt_of_lt_of_le hbg HSz.out
      have HP := Lib.hid hp
      have HCp := Lib.hid (HC.out p (List.mem_of_getElem? hp))
      clear hp pb
      obtain ⟨W1, hW1⟩ : ∃ W1, W1 = wr.alloc (.cells #[.int .i64 p.seq, .int .i64 p.time, .int .i64 p.layer, .int .i64 p.level, .bool p.start, .slice p.A p.n p.c] 29) := ⟨_, rfl⟩
      have hbW : Below wr.heap.size wr W1 := by rw [hW1]; exact (Below.refl _ _).alloc (Nat.le_refl _) _
      have hzW : W1.heap.size = wr.heap.size + 1 := by rw [hW1]; simp
      have w0 : W1.cell? ⟨wr.heap.size, 0, none⟩ = some (.int .i64 p.seq) := by rw [hW1]; simp
      by_cases hk0 : 0 < k
      · obtain ⟨bg', og', q, hAq, _, hq, q0, _, _, _, _, _, _⟩ := HR.out.at_ HB.out (k := k - 1) (by rw [HL.out]; omega)
        subst hAg
        cases hAq
        have HCq := Lib.hid (HC.out q (List.mem_of_getElem? hq))
        have hsq := chkP_seq HCq.out
        have hms : bits .and .i64 (q.seq + 1) 65535 = p.seq := by rw [i64_and65535, HW.out (k - 1) q p hq (by rw [show k - 1 + 1 = k from by omega]; exact HP.out)]
        have q0' := (hbW.cell (p := ⟨bg, og + (k - 1) * 6, none⟩) hbr).trans q0
        have HWn := Lib.hid hW1; have HBW := Lib.hid hbW; have HZW := Lib.hid hzW
        clear hW1 hbW hzW hq q0
        go_wp2_with fail
        rw [← HWn.out]
        refine (Check_ok p W1 HCp.out).mono ?_
        rintro e w2 ⟨rfl, hb2⟩
        have r0 := (hb2.cell (p := ⟨bg, og + (k - 1) * 6, none⟩) (show bg < W1.heap.size from by have := HZW.out; omega)).trans q0'
        have r1 := (hb2.cell (p := ⟨wr.heap.size, 0, none⟩) (show wr.heap.size < W1.heap.size from by have := HZW.out; omega)).trans w0
        have HB2 := Lib.hid (HBW.out.trans (hb2.mono (by have := HZW.out; omega)))
        clear hb2 w0 q0'
        go_wp2_with fail
        have g1 : IntKind.i64.wrap ((k : Int) - 1) = (k : Int) - 1 := IntWalk.i64_in _ (by omega)
        have g2 : (0 : Int) ≤ (k : Int) - 1 := by omega
        have g3 : ((k : Int) - 1).toNat = k - 1 := by omega
        have g4 : (k : Int) - 1 < (n : Int) := by omega
        have g5 : (1 : Int) ≤ (k : Int) := by omega
        have g6 : (0 : Int) < (k : Int) := by omega
        have g7 : IntKind.i64.wrap (q.seq + 1) = q.seq + 1 := IntWalk.i64_in _ (by omega)
        go_quiet (fail)
        clear g1 g2 g3 g4 g5 g6 g7
        go_wp2
        go_roundw
        case rel => exact ⟨k + 1, by omega, by go_num, HB.out.trans (below_drewN (HB2.out.mono HSz.out) _)⟩
        case measure => simp [intOf]; omega
      · have hk0' : decide ((0 : Int) < (k : Int)) = false := by simp; omega
        subst hAg
        have HWn := Lib.hid hW1; have HBW := Lib.hid hbW; have HZW := Lib.hid hzW
        clear hW1 hbW hzW w0
        go_wp2_with fail
        rw [← HWn.out]
        refine (Check_ok p W1 HCp.out).mono ?_
        rintro e w2 ⟨rfl, hb2⟩
        have HB2 := Lib.hid (HBW.out.trans (hb2.mono (by have := HZW.out; omega)))
        clear hb2
        go_wp2_with fail
        go_quiet (fail)
        go_wp2
        go_roundw
        case rel => exact ⟨k + 1, by omega, by go_num, HB.out.trans (below_drewN (HB2.out.mono HSz.out) _)⟩
        case measure => simp [intOf]; omega
    · go_wp2
      go_ret2
      exact ⟨rfl, hb⟩

set_option maxHeartbeats 2000000 in
theorem Row_bad (A : Option Addr) (n c : Nat) (g : List Pk) (w : World) (hl : g.length = n) (hr : RdP w w.heap.size A g) (hn : n ≤ 1000) (hch : ∀ p ∈ g, chkP p = 0) (hn2 : 1 < n) (hrow : ∀ p q, g[0]? = some p → g[1]? = some q → ¬ q.seq = (p.seq + 1) % 65536) :
    Calls Tryd.prog 5 #[.slice A n c] w fun e w' => e = .returned (.tuple #[.int .i64 1, .iface 54 (.int .i64 3)]) ∧ Below w.heap.size w w' := by
  have HL := Lib.hid hl; have HR := Lib.hid hr; have HC := Lib.hid hch; have HW := Lib.hid hrow
  clear hl hr hch hrow
  have hn1 : decide ((1000 : Int) < (n : Int)) = false := by simp; omega
  go_enter Tryd.func5, Tryd.ntmps5
  go_wp2
  go_loopw [13] (fun i wr => ∃ k : Nat, k ≤ 1 ∧ i = .int .i64 k ∧ Below w.heap.size w wr) (fun i _ => n - (intOf i).toNat)
  case atStart => exact ⟨0, by omega, rfl, Below.refl _ _⟩
  case round =>
    obtain ⟨k, hk, rfl, hb⟩ := hrel
    obtain ⟨bg, og, p, hAg, hbg, hp, p0, p1, p2, p3, p4, p5, pb⟩ := HR.out.at_ hb (k := k) (by rw [HL.out]; omega)
    have HB := Lib.hid hb; have HSz := Lib.hid hb.size
    have hbr : bg < wr.heap.size := Nat.lt_of_lt_of_le hbg HSz.out
    have HP := Lib.hid hp
    have HCp := Lib.hid (HC.out p (List.mem_of_getElem? hp))
    clear hp pb
    obtain ⟨W1, hW1⟩ : ∃ W1, W1 = wr.alloc (.cells #[.int .i64 p.seq, .int .i64 p.time, .int .i64 p.layer, .int .i64 p.level, .bool p.start, .slice p.A p.n p.c] 29) := ⟨_, rfl⟩
    have hbW : Below wr.heap.size wr W1 := by rw [hW1]; exact (Below.refl _ _).alloc (Nat.le_refl _) _
    have hzW : W1.heap.size = wr.heap.size + 1 := by rw [hW1]; simp
    have w0 : W1.cell? ⟨wr.heap.size, 0, none⟩ = some (.int .i64 p.seq) := by rw [hW1]; simp
    by_cases hk0 : 0 < k
    · obtain ⟨bg', og', q, hAq, _, hq, q0, _, _, _, _, _, _⟩ := HR.out.at_ HB.out (k := k - 1) (by rw [HL.out]; omega)
      subst hAg
      cases hAq
      have HCq := Lib.hid (HC.out q (List.mem_of_getElem? hq))
      have hsq := chkP_seq HCq.out
      have hk1 : k = 1 := by omega
      have hne0 : ¬ p.seq = (q.seq + 1) % 65536 := HW.out q p (by rw [← hq, hk1]) (by rw [← HP.out, hk1])
      obtain ⟨v, hv⟩ : ∃ v, v = (q.seq + 1) % 65536 := ⟨_, rfl⟩
      rw [← hv] at hne0
      have hms : bits .and .i64 (q.seq + 1) 65535 = v := by rw [i64_and65535, hv]
      have hne : (p.seq != v) = true := by simpa using hne0
      have hne2 : (p.seq == v) = false := by simpa using hne0
      have HVv := Lib.hid hv; clear hv
      clear hne0 hk1
      have q0' := (hbW.cell (p := ⟨bg, og + (k - 1) * 6, none⟩) hbr).trans q0
      have HWn := Lib.hid hW1; have HBW := Lib.hid hbW; have HZW := Lib.hid hzW
      clear hW1 hbW hzW hq q0
      go_wp2_with fail
      rw [← HWn.out]
      refine (Check_ok p W1 HCp.out).mono ?_
      rintro e w2 ⟨rfl, hb2⟩
      have r0 := (hb2.cell (p := ⟨bg, og + (k - 1) * 6, none⟩) (show bg < W1.heap.size from by have := HZW.out; omega)).trans q0'
      have r0b : w2.cell? ⟨bg, og, none⟩ = some (.int .i64 q.seq) := by have h := r0; rwa [show og + (k - 1) * 6 = og from by omega] at h
      have r1 := (hb2.cell (p := ⟨wr.heap.size, 0, none⟩) (show wr.heap.size < W1.heap.size from by have := HZW.out; omega)).trans w0
      have HB2 := Lib.hid (HBW.out.trans (hb2.mono (by have := HZW.out; omega)))
      clear hb2 w0 q0'
      go_wp2_with fail
      have g1 : IntKind.i64.wrap ((k : Int) - 1) = (k : Int) - 1 := IntWalk.i64_in _ (by omega)
      have g2 : (0 : Int) ≤ (k : Int) - 1 := by omega
      have g3 : ((k : Int) - 1).toNat = k - 1 := by omega
      have g4 : (k : Int) - 1 < (n : Int) := by omega
      have g5 : (1 : Int) ≤ (k : Int) := by omega
      have g6 : (0 : Int) < (k : Int) := by omega
      have g7 : IntKind.i64.wrap (q.seq + 1) = q.seq + 1 := IntWalk.i64_in _ (by omega)
      go_quiet (fail)
      clear g1 g2 g3 g4 g5 g6 g7
      go_wp2
      go_ret2
      exact ⟨by simp; omega, HB.out.trans (below_drewN (HB2.out.mono HSz.out) _)⟩
    · have hk0' : decide ((0 : Int) < (k : Int)) = false := by simp; omega
      subst hAg
      have HWn := Lib.hid hW1; have HBW := Lib.hid hbW; have HZW := Lib.hid hzW
      clear hW1 hbW hzW w0
      go_wp2_with fail
      rw [← HWn.out]
      refine (Check_ok p W1 HCp.out).mono ?_
      rintro e w2 ⟨rfl, hb2⟩
      have HB2 := Lib.hid (HBW.out.trans (hb2.mono (by have := HZW.out; omega)))
      clear hb2
      go_wp2_with fail
      go_quiet (fail)
      go_wp2
      go_roundw
      case rel => exact ⟨k + 1, by omega, by go_num, HB.out.trans (below_drewN (HB2.out.mono HSz.out) _)⟩
      case measure => simp [intOf]; omega
end Go.Proofs.YtnndbnecgaelkaaDoor
