/- How an argument that is a slice of packets opens. -/
import Derived.Test.YtnndbnecgaelkaaDoorB
import Derived.ProofKit
import Derived.OpenShut
import Derived.ShutString
import Derived.ChangeOld
import Derived.Deep.Slices
import Derived.Deep.Fields
import Derived.ChangeSame
namespace Go.Proofs.YtnndbnecgaelkaaDoor
set_option maxRecDepth 100000
open Go.ChangeShapes Go.WideShapes Go.ChangeAt Go.RowKit Go.Deep
set_option linter.unusedVariables false

theorem own_ : ownKnob Tryd.prog.godebug = none := by kernel_rfl
theorem laid_ : laidOutB Tryd.prog = true := by kernel_rfl

section
variable {H : Type} {enc : TypeId × Value → H} {P : Program} {w : World} {base : Nat} {spare : Nat → Bool} {held : Bool}
theorem open_slice_fields {t e : TypeId} {fs : Array Field} {fuel : Nat} {cs : List Value} {x : DataW H × List MemPlace} (ht : P.underlying t = some (.slice e)) (he : P.underlying e = some (.struct fs))
    (hone : oneCellFields P fs = true) (hC : P.cellsOf e = fs.size) (h : DataW.trod enc P w base spare held fuel t cs = some x) :
    (cs = [.slice none 0 0] ∧ x = (.nil, [])) ∨
    ∃ (a : Addr) (len cap m : Nat) (D : Nat → DataW H) (Pl : Nat → List MemPlace), cs = [.slice (some a) len cap] ∧ base ≤ a.block ∧ len ≤ cap ∧ cap ≤ maxLen ∧ m = (if spare a.block then cap else len) ∧
      x = (.slice ((List.range len).map D) ((List.range (m - len)).map fun j => D (len + j)), MemPlace.row a (m * fs.size) ++ (List.range m).flatMap Pl) ∧
      ∀ i, i < m → ∃ (ys : List (DataW H × List MemPlace)) (n : Nat), D i = .agg (ys.map (·.1)) ∧ Pl i = ys.flatMap (·.2) ∧ ys.length = fs.size ∧
        ∀ (j : Nat) (f : Field), fs[j]? = some f → ∃ (v : Value) (y : DataW H × List MemPlace), w.cell? (a.add (i * fs.size + j)) = some v ∧ ys[j]? = some y ∧ DataW.trod enc P w base spare held n f.type [v] = some y := by
  rcases open_slice ht h with h0 | ⟨a, len, cap, m, n, D, Pl, hcs, hb, hl, hm, hmm, hx, hi⟩
  · exact .inl h0
  · refine .inr ⟨a, len, cap, m, D, Pl, hcs, hb, hl, hm, hmm, by rw [hC] at hx; exact hx, fun i him => ?_⟩
    obtain ⟨cs', hc, ht'⟩ := hi i him
    rw [hC] at hc
    obtain ⟨ys, n', hn', hy, hlen, hyl, hf⟩ := DataW.trod_struct he ht'
    obtain ⟨_, hcl, hat⟩ := World.cells?_some hc
    simp only [Prod.mk.injEq] at hy
    refine ⟨ys, n', hy.1, hy.2, hyl, fun j f hj => ?_⟩
    obtain ⟨ho, hk⟩ := hone_of hone j f hj
    have hjl : j < fs.size := (Array.getElem?_eq_some_iff.1 hj).1
    have hcell := hat j hjl
    have hv : cs'[j]? = some (cs'[j]'(by omega)) := List.getElem?_eq_getElem (by omega)
    have h1 := hf j f hj
    rw [ho, hk] at h1
    have hone' : (cs'.drop j).take 1 = [cs'[j]'(by omega)] := by
      rw [List.drop_eq_getElem_cons (by omega)]
      rfl
    rw [hone'] at h1
    have hys : ys[j]? = some (ys[j]'(by omega)) := List.getElem?_eq_getElem (by omega)
    refine ⟨_, _, ?_, hys, h1.trans hys⟩
    rw [← Go.Deep.add_add, hcell, hv]
end

theorem oneP : oneCellFields Tryd.prog (Tryd.prog.fieldsOf 29) = true := by kernel_rfl
theorem cellsP : Tryd.prog.cellsOf 29 = 6 := by kernel_rfl
theorem cells5 : Tryd.prog.cellsOf 5 = 1 := by kernel_rfl

theorem add_none (b off j : Nat) : (⟨b, off, none⟩ : Addr).add j = ⟨b, off + j, none⟩ := by unfold Addr.add; split <;> simp_all
/-- a slice of bytes, wherever it lies -/
theorem open_bytes_at {H : Type} {enc : TypeId × Value → H} {w : World} {base : Nat} {spare : Nat → Bool} {held : Bool} {fuel : Nat} {v : Value} {x : DataW H × List MemPlace}
    (h : DataW.trod enc Tryd.prog w base spare held fuel 27 [v] = some x) : ∃ A n c, ∃ l : List Int, v = .slice A n c ∧ l.length = n ∧ n ≤ 9223372036854775807 ∧ RdB w w.heap.size A l ∧ (A = none → n = 0 ∧ c = 0) := by
  rcases open_slice Tryd.underlying27 h with ⟨hcs, _⟩ | ⟨a, len, cap, m, n, D, Pl, hcs, hb, hl, hm, hmm, hx, hi⟩
  · simp at hcs
    subst hcs
    exact ⟨none, 0, 0, [], rfl, rfl, by omega, RdB.nil, fun _ => ⟨rfl, rfl⟩⟩
  · simp at hcs
    subst hcs
    have hmn : len ≤ m := by rw [hmm]; split <;> omega
    have hv : ∀ i, ∃ k : Int, i < len → w.cell? (a.add i) = some (.int .u8 k) := by
      intro i
      by_cases hil : i < len
      · obtain ⟨cs', hc, ht⟩ := hi i (by omega)
        rw [cells5] at hc
        obtain ⟨_, hcl, hat⟩ := World.cells?_some hc
        have hcell := hat 0 (by omega)
        obtain ⟨u, hu⟩ : ∃ u, cs' = [u] := by
          match cs', hcl with
          | [u], _ => exact ⟨u, rfl⟩
        subst hu
        obtain ⟨k, e, _, _⟩ := DataW.trod_int Tryd.underlying5 ht
        simp at e
        subst e
        refine ⟨k, fun _ => ?_⟩
        have e0 : (a.add (i * 1)).add 0 = a.add i := by rw [Nat.mul_one]; obtain ⟨b, off, spot⟩ := a; unfold Addr.add; split <;> simp_all
        rw [← e0, hcell]
        rfl
      · exact ⟨0, fun h => absurd h hil⟩
    obtain ⟨f, hf⟩ := Classical.axiomOfChoice hv
    refine ⟨some a, len, cap, (List.range len).map f, rfl, by simp, by unfold maxLen at hm; omega, fun hl0 => ?_, fun e => by cases e⟩
    have hlen : 0 < len := by simpa using hl0
    obtain ⟨b, off, spot⟩ := a
    have h0 := hf 0 hlen
    have hspot : spot = none := by simpa [Addr.add] using World.cell?_spot h0
    subst hspot
    have hbb : b < w.heap.size := by rw [add_none] at h0; exact World.block_lt_of_cell? w _ h0
    refine ⟨b, off, rfl, hbb, fun k m hk => ?_⟩
    rw [List.getElem?_map] at hk
    obtain ⟨k', hk', rfl⟩ := Option.map_eq_some_iff.1 hk
    have hkl : k < len := by have := (List.getElem?_eq_some_iff.1 hk').1; simpa using this
    have : k' = k := by rw [List.getElem?_range hkl] at hk'; cases hk'; rfl
    subst this
    have := hf k' hkl
    rwa [add_none] at this

/-- a slice of packets that came in reads as some list -/
theorem open_packets {H : Type} {enc : TypeId × Value → H} {w : World} {base : Nat} {spare : Nat → Bool} {held : Bool} {fuel : Nat} {A : Option Addr} {n c : Nat} {x : DataW H × List MemPlace}
    (h : DataW.trod enc Tryd.prog w base spare held fuel 22 [.slice A n c] = some x) : ∃ l : List Pk, l.length = n ∧ n ≤ 9223372036854775807 ∧ RdP w w.heap.size A l := by
  rcases open_slice_fields Tryd.underlying22 Tryd.underlying29 oneP cellsP h with ⟨hcs, _⟩ | ⟨a, len, cap, m, D, Pl, hcs, _, hl, hm, hmm, _, hi⟩
  · simp at hcs
    obtain ⟨rfl, rfl, rfl⟩ := hcs
    exact ⟨[], rfl, by omega, RdP.nil⟩
  · simp at hcs
    obtain ⟨rfl, rfl, rfl⟩ := hcs
    have hmn : n ≤ m := by rw [hmm]; split <;> omega
    have hv : ∀ i, ∃ p : Pk, i < n → (w.cell? (a.add (i * 6 + 0)) = some (.int .i64 p.seq) ∧ w.cell? (a.add (i * 6 + 1)) = some (.int .i64 p.time) ∧ w.cell? (a.add (i * 6 + 2)) = some (.int .i64 p.layer) ∧ w.cell? (a.add (i * 6 + 3)) = some (.int .i64 p.level) ∧ w.cell? (a.add (i * 6 + 4)) = some (.bool p.start) ∧ w.cell? (a.add (i * 6 + 5)) = some (.slice p.A p.n p.c)) ∧ Bd w w.heap.size p := by
      intro i
      by_cases hil : i < n
      · obtain ⟨ys, k, _, _, hyl, hf⟩ := hi i (by omega)
        obtain ⟨v0, y0, c0, _, t0⟩ := hf 0 _ rfl
        obtain ⟨v1, y1, c1, _, t1⟩ := hf 1 _ rfl
        obtain ⟨v2, y2, c2, _, t2⟩ := hf 2 _ rfl
        obtain ⟨v3, y3, c3, _, t3⟩ := hf 3 _ rfl
        obtain ⟨v4, y4, c4, _, t4⟩ := hf 4 _ rfl
        obtain ⟨v5, y5, c5, _, t5⟩ := hf 5 _ rfl
        obtain ⟨n0, e0, _, _⟩ := DataW.trod_int Tryd.underlying3 t0
        obtain ⟨n1, e1, _, _⟩ := DataW.trod_int Tryd.underlying3 t1
        obtain ⟨n2, e2, _, _⟩ := DataW.trod_int Tryd.underlying3 t2
        obtain ⟨n3, e3, _, _⟩ := DataW.trod_int Tryd.underlying3 t3
        obtain ⟨b4, e4, _⟩ := DataW.trod_bool Tryd.underlying4 t4
        obtain ⟨A5, n5, k5, l5, e5, g1, g2, g3, g4⟩ := open_bytes_at t5
        simp at e0 e1 e2 e3 e4
        subst e0 e1 e2 e3 e4 e5
        exact ⟨⟨n0, n1, n2, n3, b4, A5, n5, k5, l5⟩, fun _ => ⟨⟨c0, c1, c2, c3, c4, c5⟩, g1, g2, g3, g4⟩⟩
      · exact ⟨⟨0, 0, 0, 0, false, none, 0, 0, []⟩, fun h => absurd h hil⟩
    obtain ⟨f, hf⟩ := Classical.axiomOfChoice hv
    refine ⟨(List.range n).map f, by simp, by unfold maxLen at hm; omega, fun hl0 => ?_, fun p hp => ?_⟩
    · have hlen : 0 < n := by simpa using hl0
      obtain ⟨b, off, spot⟩ := a
      have h0 := (hf 0 hlen).1.1
      have hspot : spot = none := by simpa [Addr.add] using World.cell?_spot h0
      subst hspot
      have hbb : b < w.heap.size := by rw [add_none] at h0; exact World.block_lt_of_cell? w _ h0
      refine ⟨b, off, rfl, hbb, fun k m hk => ?_⟩
      rw [List.getElem?_map] at hk
      obtain ⟨k', hk', rfl⟩ := Option.map_eq_some_iff.1 hk
      have hkl : k < n := by have := (List.getElem?_eq_some_iff.1 hk').1; simpa using this
      have : k' = k := by rw [List.getElem?_range hkl] at hk'; cases hk'; rfl
      subst this
      obtain ⟨d0, d1, d2, d3, d4, d5⟩ := (hf k' hkl).1
      simp only [add_none] at d0 d1 d2 d3 d4 d5
      exact ⟨d0, by rw [Nat.add_assoc]; exact d1, by rw [Nat.add_assoc]; exact d2, by rw [Nat.add_assoc]; exact d3, by rw [Nat.add_assoc]; exact d4, by rw [Nat.add_assoc]; exact d5⟩
    · obtain ⟨k, hk, rfl⟩ := List.mem_map.1 hp
      exact (hf k (by simpa using hk)).2
end Go.Proofs.YtnndbnecgaelkaaDoor
