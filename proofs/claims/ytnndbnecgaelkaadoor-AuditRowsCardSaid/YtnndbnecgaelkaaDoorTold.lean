/- plain.Told and choirsame.Error. -/
import Derived.Test.YtnndbnecgaelkaaDoorAs
import Derived.Below
import Derived.Outline
namespace Go.Proofs.YtnndbnecgaelkaaDoor
open Go.RowKit

/-- error numbers as values -/
def errT (e : Int) : Value := if e = 0 then .nilIface else .iface 54 (.int .i64 e)
/-- the library's variable lies as it is laid -/
def Gl (w : World) : Prop := w.cell? ⟨0, 0, none⟩ = some (.iface 99 (.agg #[.pointer (some ⟨1, 24, none⟩)]))
theorem Gl.lt {w : World} (h : Gl w) : 0 < w.heap.size := by
  unfold Gl at h
  rcases Nat.eq_zero_or_pos w.heap.size with h0 | h'
  · simp [World.cell?, h0] at h
  · exact h'
theorem Gl.below {w w' : World} {B : Nat} (h : Gl w) (hb : Below B w w') (hB : 0 < B) : Gl w' := (hb.cell (p := ⟨0, 0, none⟩) hB).trans h

theorem Told_nil (w : World) : Calls Tryd.prog 20 #[.nilIface] w fun e w' => e = .returned (.int .i64 0) ∧ w = w' := by
  go_enter Tryd.func20, Tryd.ntmps20
  go_wp2
  go_ret
  exact ⟨rfl, rfl⟩
set_option maxHeartbeats 1000000 in
theorem Told_err (n : Int) (w : World) (hg : Gl w) : Calls Tryd.prog 20 #[.iface 54 (.int .i64 n)] w fun e w' => e = .returned (.int .i64 n) ∧ Below w.heap.size w w' := by
  have hlt := hg.lt
  have HG : Hid (Gl (w.alloc (.cells #[.int .i64 0] 54))) := Lib.hid (hg.below ((Below.refl w.heap.size w).alloc (Nat.le_refl _) _) hlt)
  have HC : Hid ((w.alloc (.cells #[.int .i64 0] 54)).cell? ⟨w.heap.size, 0, none⟩ = some (.int .i64 0)) := Lib.hid (by simp)
  have HF : Hid ((w.alloc (.cells #[.int .i64 0] 54)).frozen? ⟨w.heap.size, 0, none⟩ = false) := Lib.hid (World.frozen?_alloc_at (w := w) _ _ w.heap.size 0 rfl)
  clear hg
  go_enter Tryd.func20, Tryd.ntmps20
  go_wp2_with fail
  refine (as_hit n ⟨w.heap.size, 0, none⟩ (.int .i64 0) _ HG.out HC.out HF.out).mono ?_
  rintro e w1 ⟨rfl, hw1⟩
  have hb : Below w.heap.size w w1 := by
    rw [hw1]
    exact ((((((Below.refl w.heap.size w).alloc (Nat.le_refl _) _).alloc (by simp) _).alloc (by simp; omega) _).alloc (by simp; omega) _).alloc (by simp; omega) _).setCell (by simp) _
  have hc : w1.cell? ⟨w.heap.size, 0, none⟩ = some (.int .i64 n) := by
    rw [hw1]
    refine World.cell?_setCell_same (u := .int .i64 0) _ _ _ ?_
    rw [World.cell?_alloc_lt _ _ _ (by simp; omega), World.cell?_alloc_lt _ _ _ (by simp; omega), World.cell?_alloc_lt _ _ _ (by simp; omega), World.cell?_alloc_lt _ _ _ (by simp)]
    exact HC.out
  have HB := Lib.hid hb
  clear hw1 hb
  go_wp2
  go_ret
  exact ⟨rfl, HB.out⟩
theorem Told_any (k : Int) (w : World) (hg : Gl w) : Calls Tryd.prog 20 #[errT k] w fun e w' => e = .returned (.int .i64 k) ∧ Below w.heap.size w w' := by
  unfold errT
  split
  · rename_i h; subst h; exact (Told_nil w).mono fun e w' ⟨h1, h2⟩ => ⟨h1, by rw [← h2]; exact Below.refl _ _⟩
  · exact Told_err k w hg

/-- is an error the one told: by its outcome -/
theorem Error_any (v : Value) (k e : Int) (b : Bool) (w : World) (hv : v = errT k) (hg : Gl w) (hb : (k == e) = b) :
    Calls Tryd.prog 6 #[v, .int .i64 e] w fun e w' => e = .returned (.bool b) ∧ Below w.heap.size w w' := by
  subst hv
  obtain ⟨v, hv⟩ : ∃ v, v = errT k := ⟨_, rfl⟩
  rw [← hv]
  have HV := Lib.hid hv; have HG := Lib.hid hg; clear hv hg
  go_enter Tryd.func6, Tryd.ntmps6
  go_wp2_with fail
  rw [HV.out]
  refine (Told_any k _ HG.out).mono ?_
  rintro e' w1 ⟨rfl, hb1⟩
  have HB := Lib.hid hb1; clear hb1
  go_wp2
  go_ret
  exact ⟨rfl, HB.out⟩
end Go.Proofs.YtnndbnecgaelkaaDoor
