/- How arguments that are slices of ints and of bytes open. -/
import Derived.Test.YtpaahhanjjjieaaBm
import Derived.ProofKit
import Derived.OpenShut
import Derived.ShutString
import Derived.ChangeOld
import Derived.Deep.Slices
import Derived.Deep.Fields
import Derived.ChangeSame
namespace Go.Proofs.Ytpaahhanjjjieaa
set_option maxRecDepth 100000
open Go.ChangeShapes Go.WideShapes Go.ChangeAt Go.RowKit Go.Deep
set_option linter.unusedVariables false

theorem own_ : ownKnob Try.prog.godebug = none := by kernel_rfl
theorem laid_ : laidOutB Try.prog = true := by kernel_rfl
theorem cellsI : Try.prog.cellsOf 3 = 1 := by kernel_rfl
theorem cellsB : Try.prog.cellsOf 5 = 1 := by kernel_rfl
theorem add_none (b off j : Nat) : (⟨b, off, none⟩ : Addr).add j = ⟨b, off + j, none⟩ := by unfold Addr.add; split <;> simp_all

/-- one-cell integers, wherever they lie -/
theorem open_nums_at {H : Type} {enc : TypeId × Value → H} {w : World} {base : Nat} {spare : Nat → Bool} {held : Bool} {fuel : Nat} {v : Value} {x : DataW H × List MemPlace} {t e : TypeId} {q : IntKind}
    (ht : Try.prog.underlying t = some (.slice e)) (he : Try.prog.underlying e = some (.int q)) (hc : Try.prog.cellsOf e = 1)
    (h : DataW.trod enc Try.prog w base spare held fuel t [v] = some x) : ∃ A c, ∃ l : List Int, v = .slice A l.length c ∧ l.length ≤ 9223372036854775807 ∧ l.length ≤ c ∧ RdC w w.heap.size A (l.map (Value.int q)) ∧ (A = none → l = [] ∧ c = 0) ∧ ∀ z ∈ l, (Lit.int q z).wf = true := by
  rcases open_slice ht h with ⟨hcs, _⟩ | ⟨a, len, cap, m, n, D, Pl, hcs, hb, hl, hm, hmm, hx, hi⟩
  · simp at hcs
    subst hcs
    exact ⟨none, 0, [], rfl, by simp, Nat.le_refl _, RdC.nil, fun _ => ⟨rfl, rfl⟩, by simp⟩
  · simp at hcs
    subst hcs
    have hmn : len ≤ m := by rw [hmm]; split <;> omega
    have hv : ∀ i, ∃ k : Int, i < len → w.cell? (a.add i) = some (.int q k) ∧ (Lit.int q k).wf = true := by
      intro i
      by_cases hil : i < len
      · obtain ⟨cs', hcc, htt⟩ := hi i (by omega)
        rw [hc] at hcc
        obtain ⟨_, hcl, hat⟩ := World.cells?_some hcc
        have hcell := hat 0 (by omega)
        obtain ⟨u, hu⟩ : ∃ u, cs' = [u] := by
          match cs', hcl with
          | [u], _ => exact ⟨u, rfl⟩
        subst hu
        obtain ⟨k, e, _, hwf⟩ := DataW.trod_int he htt
        simp at e
        subst e
        refine ⟨k, fun _ => ⟨?_, hwf⟩⟩
        have e0 : (a.add (i * 1)).add 0 = a.add i := by rw [Nat.mul_one]; obtain ⟨b, off, spot⟩ := a; unfold Addr.add; split <;> simp_all
        rw [← e0, hcell]
        rfl
      · exact ⟨0, fun h => absurd h hil⟩
    obtain ⟨f, hf⟩ := Classical.axiomOfChoice hv
    have hln : ((List.range len).map f).length = len := by simp
    refine ⟨some a, cap, (List.range len).map f, by rw [hln], by rw [hln]; unfold maxLen at hm; omega, by rw [hln]; exact hl, fun hl0 => ?_, fun e => by (cases e), ?_⟩
    · have hlen : 0 < len := by simpa using hl0
      obtain ⟨b, off, spot⟩ := a
      have h0 := (hf 0 hlen).1
      have hspot : spot = none := by simpa [Addr.add] using World.cell?_spot h0
      subst hspot
      have hbb : b < w.heap.size := by rw [add_none] at h0; exact World.block_lt_of_cell? w _ h0
      refine ⟨b, off, rfl, hbb, fun k m hk => ?_⟩
      rw [List.map_map, List.getElem?_map] at hk
      obtain ⟨k', hk', rfl⟩ := Option.map_eq_some_iff.1 hk
      have hkl : k < len := by have := (List.getElem?_eq_some_iff.1 hk').1; simpa using this
      have : k' = k := by rw [List.getElem?_range hkl] at hk'; cases hk'; rfl
      subst this
      have := (hf k' hkl).1
      rwa [add_none] at this
    · intro z hz
      obtain ⟨i, hi, rfl⟩ := List.mem_map.1 hz
      exact (hf i (List.mem_range.1 hi)).2
theorem open_ints_at {H : Type} {enc : TypeId × Value → H} {w : World} {base : Nat} {spare : Nat → Bool} {held : Bool} {fuel : Nat} {v : Value} {x : DataW H × List MemPlace}
    (h : DataW.trod enc Try.prog w base spare held fuel 22 [v] = some x) : ∃ l : List Int, SlI w v l ∧ l.length ≤ 9223372036854775807 := by
  obtain ⟨A, c, l, h1, h2, _, h3, _, _⟩ := open_nums_at Try.underlying22 Try.underlying3 cellsI h
  exact ⟨l, ⟨A, c, h1, h3⟩, h2⟩
end Go.Proofs.Ytpaahhanjjjieaa
