/- out.New, out.Next. -/
import Derived.Test.YtnndbnecgaelkaaDoorF
namespace Go.Proofs.YtnndbnecgaelkaaDoor
set_option maxRecDepth 100000
open Go.RowKit

theorem New_bad (seq time : Int) (w : World) (h : seq < 0 ∨ 65535 < seq ∨ time < 0 ∨ 4294967295 < time) : Calls Tryd.prog 7 #[.int .i64 seq, .int .i64 time] w fun e w' => e = .returned (.tuple #[.pointer none, .iface 54 (.int .i64 1)]) ∧ Below w.heap.size w w' := by
  by_cases hs : seq < 0 ∨ 65535 < seq
  · go_enter Tryd.func7, Tryd.ntmps7
    go_wp2_with fail
    refine (Seq_no _ _ hs).mono ?_
    rintro e w1 ⟨rfl, rfl⟩
    go_wp2
    go_ret2
    exact ⟨rfl, Below.refl _ _⟩
  · by_cases ht : time < 0
    · go_enter Tryd.func7, Tryd.ntmps7
      go_wp2_with fail
      refine (Seq_yes _ _ (by omega) (by omega)).mono ?_
      rintro e w1 ⟨rfl, rfl⟩
      go_wp2
      go_ret2
      exact ⟨rfl, Below.refl _ _⟩
    · have ht' : decide (time < 0) = false := by simpa using ht
      have ht2 : 4294967295 < time := by omega
      go_enter Tryd.func7, Tryd.ntmps7
      go_wp2_with fail
      refine (Seq_yes _ _ (by omega) (by omega)).mono ?_
      rintro e w1 ⟨rfl, rfl⟩
      go_wp2
      go_ret2
      exact ⟨rfl, Below.refl _ _⟩
theorem New_ok (seq time : Int) (w : World) (h : ¬ (seq < 0 ∨ 65535 < seq ∨ time < 0 ∨ 4294967295 < time)) : Calls Tryd.prog 7 #[.int .i64 seq, .int .i64 time] w fun e w' => e = .returned (.tuple #[.pointer (some ⟨w.heap.size, 0, none⟩), .nilIface]) ∧ w' = w.alloc (.cells #[.int .i64 seq, .int .i64 time, .int .i64 0, .int .i64 0, .int .i64 0, .int .i64 0, .int .i64 0, .bool false, .slice none 0 0] 59) := by
  have ht' : decide (time < 0) = false := by simp; omega
  have ht2 : decide (4294967295 < time) = false := by simp; omega
  go_enter Tryd.func7, Tryd.ntmps7
  go_wp2_with fail
  refine (Seq_yes _ _ (by omega) (by omega)).mono ?_
  rintro e w1 ⟨rfl, rfl⟩
  go_wp2
  go_ret2
  exact ⟨rfl, rfl⟩

theorem Next_bad (p : Pk) (bo : Nat) (w : World) (k : Int) (hk : chkP p = k) (h0 : k ≠ 0) :
    Calls Tryd.prog 8 #[.pointer (some ⟨bo, 0, none⟩), .agg #[.int .i64 p.seq, .int .i64 p.time, .int .i64 p.layer, .int .i64 p.level, .bool p.start, .slice p.A p.n p.c]] w fun e w' => e = .returned (.tuple #[.agg #[.int .i64 0, .int .i64 0, .int .i64 0, .int .i64 0, .bool false, .slice none 0 0], .iface 54 (.int .i64 k)]) ∧ Below w.heap.size w w' := by
  have HK := Lib.hid hk; have H0 := Lib.hid h0; clear hk h0
  have hb : ∀ o1 o2, Below w.heap.size w ((w.alloc o1).alloc o2) := fun o1 o2 => ((Below.refl _ _).alloc (Nat.le_refl _) _).alloc (by simp) _
  have HB := Lib.hid hb; clear hb
  go_enter Tryd.func8, Tryd.ntmps8
  go_wp2_with fail
  obtain ⟨W1, hW1⟩ : ∃ W1, W1 = (w.alloc (.cells #[.int .i64 p.seq, .int .i64 p.time, .int .i64 p.layer, .int .i64 p.level, .bool p.start, .slice p.A p.n p.c] 29)).alloc (.cells #[.int .i64 0, .int .i64 0, .int .i64 0, .int .i64 0, .bool false, .slice none 0 0] 29) := ⟨_, rfl⟩
  rw [← hW1]
  have hz : W1.heap.size = w.heap.size + 2 := by rw [hW1]; simp
  have hbW : Below w.heap.size w W1 := by rw [hW1]; exact HB.out _ _
  have c0 : W1.cell? ⟨w.heap.size + 1, 0, none⟩ = some (.int .i64 0) := by rw [hW1]; simp
  have c1 : W1.cell? ⟨w.heap.size + 1, 1, none⟩ = some (.int .i64 0) := by rw [hW1]; simp
  have c2 : W1.cell? ⟨w.heap.size + 1, 2, none⟩ = some (.int .i64 0) := by rw [hW1]; simp
  have c3 : W1.cell? ⟨w.heap.size + 1, 3, none⟩ = some (.int .i64 0) := by rw [hW1]; simp
  have c4 : W1.cell? ⟨w.heap.size + 1, 4, none⟩ = some (.bool false) := by rw [hW1]; simp
  have c5 : W1.cell? ⟨w.heap.size + 1, 5, none⟩ = some (.slice none 0 0) := by rw [hW1]; simp
  have cf : ∀ o, W1.frozen? ⟨w.heap.size + 1, o, none⟩ = false := by intro o; rw [hW1]; exact World.frozen?_alloc_at (w := w.alloc _) _ _ (w.heap.size + 1) o (by simp)
  refine (Check_any p W1).mono ?_
  rintro e w2 ⟨he, hb2⟩
  rw [HK.out, errT, if_neg H0.out] at he
  subst he
  have hlt : w.heap.size + 1 < W1.heap.size := by omega
  have d0 := (hb2.cell (p := ⟨w.heap.size + 1, 0, none⟩) hlt).trans c0
  have d1 := (hb2.cell (p := ⟨w.heap.size + 1, 1, none⟩) hlt).trans c1
  have d2 := (hb2.cell (p := ⟨w.heap.size + 1, 2, none⟩) hlt).trans c2
  have d3 := (hb2.cell (p := ⟨w.heap.size + 1, 3, none⟩) hlt).trans c3
  have d4 := (hb2.cell (p := ⟨w.heap.size + 1, 4, none⟩) hlt).trans c4
  have d5 := (hb2.cell (p := ⟨w.heap.size + 1, 5, none⟩) hlt).trans c5
  have e0 := (hb2.frozen (p := ⟨w.heap.size + 1, 0, none⟩) hlt).trans (cf 0)
  have e1 := (hb2.frozen (p := ⟨w.heap.size + 1, 1, none⟩) hlt).trans (cf 1)
  have e2 := (hb2.frozen (p := ⟨w.heap.size + 1, 2, none⟩) hlt).trans (cf 2)
  have e3 := (hb2.frozen (p := ⟨w.heap.size + 1, 3, none⟩) hlt).trans (cf 3)
  have e4 := (hb2.frozen (p := ⟨w.heap.size + 1, 4, none⟩) hlt).trans (cf 4)
  have e5 := (hb2.frozen (p := ⟨w.heap.size + 1, 5, none⟩) hlt).trans (cf 5)
  have HB2 := Lib.hid (hbW.trans (hb2.mono (by omega)))
  clear c0 c1 c2 c3 c4 c5 cf hW1 hbW hb2 hz hlt
  go_wp2
  refine bodyPost_ret (v := .tuple #[.agg #[.int .i64 0, .int .i64 0, .int .i64 0, .int .i64 0, .bool false, .slice none 0 0], .iface 54 (.int .i64 k)]) (by simp [results, Tryd.results8, go_sem, d0, d1, d2, d3, d4, d5, e0, e1, e2, e3, e4, e5]) rfl ⟨rfl, ?_⟩
  exact (((((HB2.out.setCell (by simp) _).setCell (by simp) _).setCell (by simp) _).setCell (by simp) _).setCell (by simp) _).setCell (by simp) _
end Go.Proofs.YtnndbnecgaelkaaDoor
