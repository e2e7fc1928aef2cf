/- The walk of AuditRows. -/
import Derived.Test.YtnndbnecgaelkaaDoorK
namespace Go.Proofs.YtnndbnecgaelkaaDoor
set_option maxRecDepth 100000
open Go.RowKit

def lits : List Pk := [⟨1, 0, 0, 0, false, none, 0, 0, []⟩, ⟨3, 0, 0, 0, false, none, 0, 0, []⟩]
theorem lits_rd (w : World) : RdP (w.alloc (.cells #[.int .i64 1, .int .i64 0, .int .i64 0, .int .i64 0, .bool false, .slice none 0 0, .int .i64 3, .int .i64 0, .int .i64 0, .int .i64 0, .bool false, .slice none 0 0] 29)) (w.heap.size + 1) (some ⟨w.heap.size, 0, none⟩) lits := by
  refine ⟨fun _ => ⟨w.heap.size, 0, rfl, Nat.lt_succ_self _, fun k m hk => ?_⟩, fun m hm => ?_⟩
  · rcases k with _ | _ | k
    · simp [lits] at hk; subst hk; simp
    · simp [lits] at hk; subst hk; simp
    · simp [lits] at hk
  · simp [lits] at hm
    rcases hm with rfl | rfl <;> exact ⟨rfl, Nat.zero_le _, RdB.nil, fun _ => ⟨rfl, rfl⟩⟩
theorem lits_chk : ∀ p ∈ lits, chkP p = 0 := by
  intro p hp
  simp [lits] at hp
  rcases hp with rfl | rfl <;> decide
theorem errT3 : errT 3 = .iface 54 (.int .i64 3) := rfl
theorem Row_lits (w : World) : Calls Tryd.prog 5 #[.slice (some ⟨w.heap.size, 0, none⟩) 2 2] (w.alloc (.cells #[.int .i64 1, .int .i64 0, .int .i64 0, .int .i64 0, .bool false, .slice none 0 0, .int .i64 3, .int .i64 0, .int .i64 0, .int .i64 0, .bool false, .slice none 0 0] 29)) fun e w' => e = .returned (.tuple #[.int .i64 1, errT 3]) ∧ Below w.heap.size w w' :=
  (Row_bad _ 2 2 lits _ rfl (by simpa using lits_rd w) (by omega) lits_chk (by omega) (fun p q h1 h2 => by simp [lits] at h1 h2; subst h1 h2; decide)).mono fun e w' ⟨h1, h2⟩ => ⟨h1, ((Below.refl _ _).alloc (Nat.le_refl _) _).trans (h2.mono (by simp))⟩
theorem Error_3 (w : World) (hg : Gl w) : Calls Tryd.prog 6 #[errT 3, .int .i64 3] w fun e w' => e = .returned (.bool true) ∧ Below w.heap.size w w' := Error_any _ 3 3 true w rfl hg (by decide)

set_option maxHeartbeats 4000000 in
theorem audit_bad (A : Option Addr) (n c : Nat) (seq time : Int) (w : World) (hg : Gl w) (h : seq < 0 ∨ 65535 < seq ∨ time < 0 ∨ 4294967295 < time) :
    Calls Tryd.prog 3 #[.int .i64 seq, .int .i64 time, .slice A n c] w fun e w' => e = .returned (.bool true) ∧ Below w.heap.size w w' := by
  have HG := Lib.hid hg; have HZ := Lib.hid hg.lt; have H := Lib.hid h
  clear hg h
  have hcase : seq < 0 ∨ (¬ seq < 0 ∧ 65535 < seq) ∨ (¬ seq < 0 ∧ ¬ 65535 < seq ∧ time < 0) ∨ (¬ seq < 0 ∧ ¬ 65535 < seq ∧ ¬ time < 0 ∧ 4294967295 < time) := by have := H.out; omega
  go_enter Tryd.func3, Tryd.ntmps3
  go_wp2_with fail
  refine (Row_lits w).mono ?_
  rintro e w1 ⟨rfl, hb1⟩
  have B := Lib.hid hb1; clear hb1
  go_wp2_with fail
  refine (Error_3 _ (HG.out.below B.out HZ.out)).mono ?_
  rintro e w2 ⟨rfl, hb2⟩
  have B := Lib.hid (B.out.trans (hb2.mono B.out.size)); clear hb2
  go_wp2_with fail
  refine (New_bad seq time _ H.out).mono ?_
  rintro e w3 ⟨rfl, hb3⟩
  have B := Lib.hid (B.out.trans (hb3.mono B.out.size)); clear hb3
  rcases hcase with h | ⟨h0, h⟩ | ⟨h0, h1, h⟩ | ⟨h0, h1, h2, h⟩
  · go_wp2
    go_ret
    exact ⟨rfl, B.out⟩
  · have h0' : decide (seq < 0) = false := by simpa using h0
    go_wp2
    go_ret
    exact ⟨rfl, B.out⟩
  · have h0' : decide (seq < 0) = false := by simpa using h0
    have h1' : decide (65535 < seq) = false := by simpa using h1
    go_wp2
    go_ret
    exact ⟨rfl, B.out⟩
  · have h0' : decide (seq < 0) = false := by simpa using h0
    have h1' : decide (65535 < seq) = false := by simpa using h1
    have h2' : decide (time < 0) = false := by simpa using h2
    go_wp2
    go_ret
    exact ⟨by simp [h], B.out⟩
end Go.Proofs.YtnndbnecgaelkaaDoor
