/- serial.Seq, choirsame.Ints. -/
import Derived.Test.YtpaahhanjjjieaaBm
namespace Go.Proofs.Ytpaahhanjjjieaa
set_option maxRecDepth 100000
open Go.RowKit

def seqB (n : Int) : Bool := decide (0 ≤ n ∧ n ≤ 65535)
theorem Seq_yes (n : Int) (w : World) (h : 0 ≤ n ∧ n ≤ 65535) : Calls Try.prog 12 #[.int .i64 n] w fun e w' => e = .returned (.bool true) ∧ w = w' := by
  obtain ⟨h0, h1⟩ := h
  have h0' : decide (0 ≤ n) = true := by simpa using h0
  go_enter Try.func12, Try.ntmps12
  go_wp2
  go_ret
  exact ⟨by simp [h1], rfl⟩
theorem Seq_no (n : Int) (w : World) (h : ¬ (0 ≤ n ∧ n ≤ 65535)) : Calls Try.prog 12 #[.int .i64 n] w fun e w' => e = .returned (.bool false) ∧ w = w' := by
  by_cases h0 : 0 ≤ n
  · have h0' : decide (0 ≤ n) = true := by simpa using h0
    go_enter Try.func12, Try.ntmps12
    go_wp2
    go_ret
    exact ⟨by simp; omega, rfl⟩
  · have h0' : decide (0 ≤ n) = false := by simpa using h0
    go_enter Try.func12, Try.ntmps12
    go_wp2
    go_ret
    exact ⟨rfl, rfl⟩

theorem Ints_s (v u : Value) (l : List Int) (w : World) (hv : SlI w v l) (hu : SlI w u l) (hn : l.length ≤ 1000000) :
    Calls Try.prog 7 #[v, u] w fun e w' => e = .returned (.bool true) ∧ Below w.heap.size w w' := by
  obtain ⟨A, c, rfl, h4⟩ := hv
  obtain ⟨A', c', rfl, h4'⟩ := hu
  obtain ⟨n, hn0⟩ : ∃ n, n = l.length := ⟨_, rfl⟩
  rw [← hn0] at hn ⊢
  have HL := Lib.hid hn0.symm; have HR := Lib.hid h4; have HR' := Lib.hid h4'
  clear h4 h4' hn0
  go_enter Try.func7, Try.ntmps7
  go_wp2
  go_loopw [5] (fun i wr => ∃ k : Nat, k ≤ n ∧ i = .int .i64 k ∧ Below w.heap.size w wr) (fun i _ => n - (intOf i).toNat)
  case atStart => exact ⟨0, by omega, rfl, Below.refl _ _⟩
  case round =>
    obtain ⟨k, hk, rfl, hb⟩ := hrel
    by_cases hlt : k < n
    · obtain ⟨b, off, m, hA, hblk, hm, e1⟩ := HR.out.int_at hb (k := k) (by rw [HL.out]; omega)
      obtain ⟨b', off', m', hA', hblk', hm', f1⟩ := HR'.out.int_at hb (k := k) (by rw [HL.out]; omega)
      rw [hm] at hm'
      cases hm'
      subst hA; subst hA'
      clear hm
      go_wp2_with fail
      go_quiet (fail)
      go_wp2
      go_roundw
      case rel => exact ⟨k + 1, by omega, by go_num, below_drewN hb _⟩
      case measure => simp [intOf]; omega
    · go_wp2
      go_ret
      exact ⟨rfl, hb⟩
end Go.Proofs.Ytpaahhanjjjieaa
