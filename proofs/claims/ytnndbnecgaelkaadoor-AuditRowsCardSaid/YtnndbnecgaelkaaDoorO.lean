/- What holds between two rounds of AuditRows' loop, and how it goes on. -/
import Derived.Test.YtnndbnecgaelkaaDoorN
namespace Go.Proofs.YtnndbnecgaelkaaDoor
set_option maxRecDepth 100000
open Go.RowKit

def Apart (p : Pk) (b : Nat) : Prop := 0 < p.body.length → ∀ b' o t, p.A = some ⟨b', o, t⟩ → b' ≠ b
theorem RdB.step {w w' : World} {A : Option Addr} {l : List Int} {row : Option Nat} (h : RdB w w.heap.size A l) (hg : w.grownBy w' row) (hne : 0 < l.length → ∀ b o t, A = some ⟨b, o, t⟩ → row ≠ some b) : RdB w' w'.heap.size A l := by
  intro hl
  obtain ⟨b, off, hA, hlt, hc⟩ := h hl
  exact ⟨b, off, hA, Nat.lt_of_lt_of_le hlt hg.size, fun k m hm => hg.cell (hc k m hm) (fun e => hne hl b off none hA e.symm)⟩
theorem Bd.step {w w' : World} {p : Pk} {row : Option Nat} (h : Bd w w.heap.size p) (hg : w.grownBy w' row) (hne : ∀ b, row = some b → Apart p b) : Bd w' w'.heap.size p :=
  ⟨h.1, h.2.1, h.2.2.1.step hg (fun hl b o t e er => hne b er hl b o t e rfl), h.2.2.2⟩
/-- a body that reads lies below -/
theorem Bd.apart_new {w : World} {p : Pk} (h : Bd w w.heap.size p) {b : Nat} (hb : w.heap.size ≤ b) : Apart p b := by
  intro hl b' o t e
  obtain ⟨b2, off, hA, hlt, _⟩ := h.2.2.1 hl
  rw [e] at hA
  cases hA
  omega

structure Inv (W : World) (B0 bo : Nat) (wr : World) (v1 v2 : Value) (s g : List Pk) (sq tm cnt lt ll : Int) : Prop where
  own1 : wr.ownsRow (bo + 1) 29 6 v1 s.length (pcells s)
  own2 : wr.ownsRow (bo + 1) 29 6 v2 g.length (pcells g)
  apart : ∀ b, v1.ownBlock = some b → v2.ownBlock ≠ some b
  out : OutAt wr bo sq tm cnt lt ll
  sqr : 0 ≤ sq ∧ sq ≤ 65535
  tmr : 0 ≤ tm ∧ tm ≤ 4294967295
  ltr : 0 ≤ lt ∧ lt ≤ 4294967295
  below : Below B0 W wr
  lo : B0 ≤ bo
  hi : bo < wr.heap.size
  b1 : ∀ p ∈ s, Bd wr wr.heap.size p ∧ Apart p bo ∧ ∀ b, v1.ownBlock = some b ∨ v2.ownBlock = some b → Apart p b
  b2 : ∀ p ∈ g, Bd wr wr.heap.size p ∧ Apart p bo ∧ ∀ b, v1.ownBlock = some b ∨ v2.ownBlock = some b → Apart p b

variable {W : World} {B0 bo : Nat} {wr w' : World} {v1 v2 v' : Value} {s g : List Pk} {sq tm cnt lt ll sq' tm' cnt' lt' ll' : Int} {p : Pk}

theorem own_lt {w : World} {base e size n : Nat} {v : Value} {xs : List Value} (h : w.ownsRow base e size v n xs) {b : Nat} (hb : v.ownBlock = some b) : base ≤ b ∧ b < w.heap.size := h.lt b hb
theorem Inv.later (h : Inv W B0 bo wr v1 v2 s g sq tm cnt lt ll) (hb : Below wr.heap.size wr w') : Inv W B0 bo w' v1 v2 s g sq tm cnt lt ll where
  own1 := own_below h.own1 hb
  own2 := own_below h.own2 hb
  apart := h.apart
  out := h.out.below hb h.hi
  sqr := h.sqr
  tmr := h.tmr
  ltr := h.ltr
  below := h.below.trans (hb.mono (Nat.le_trans h.lo (Nat.le_of_lt h.hi)))
  lo := h.lo
  hi := Nat.lt_of_lt_of_le h.hi hb.size
  b1 := fun p hp => ⟨((h.b1 p hp).1.below hb).more hb.size, (h.b1 p hp).2⟩
  b2 := fun p hp => ⟨((h.b2 p hp).1.below hb).more hb.size, (h.b2 p hp).2⟩
theorem Inv.next (h : Inv W B0 bo wr v1 v2 s g sq tm cnt lt ll) (hg : wr.grownBy w' (some bo)) (ho : OutAt w' bo sq' tm' cnt' lt' ll') (hs : 0 ≤ sq' ∧ sq' ≤ 65535) (ht : 0 ≤ tm' ∧ tm' ≤ 4294967295) (hl : 0 ≤ lt' ∧ lt' ≤ 4294967295) : Inv W B0 bo w' v1 v2 s g sq' tm' cnt' lt' ll' where
  own1 := h.own1.kept hg (Or.inr fun e => by have := (own_lt h.own1 e).1; omega)
  own2 := h.own2.kept hg (Or.inr fun e => by have := (own_lt h.own2 e).1; omega)
  apart := h.apart
  out := ho
  sqr := hs
  tmr := ht
  ltr := hl
  below := h.below.grown hg (Nat.le_trans h.lo (Nat.le_of_lt h.hi)) (fun k e => by cases e; exact h.lo)
  lo := h.lo
  hi := Nat.lt_of_lt_of_le h.hi hg.size
  b1 := fun p hp => ⟨(h.b1 p hp).1.step hg (fun b e => by cases e; exact (h.b1 p hp).2.1), (h.b1 p hp).2⟩
  b2 := fun p hp => ⟨(h.b2 p hp).1.step hg (fun b e => by cases e; exact (h.b2 p hp).2.1), (h.b2 p hp).2⟩
theorem OutAt.grown {w w' : World} {bo : Nat} {seq time sent lt ll : Int} {row : Option Nat} (h : OutAt w bo seq time sent lt ll) (hg : w.grownBy w' row) (hlt : bo < w.heap.size) (hne : some bo ≠ row) : OutAt w' bo seq time sent lt ll := by
  have hbk := hg.block bo hlt hne
  have hc : ∀ o, w'.cell? ⟨bo, o, none⟩ = w.cell? ⟨bo, o, none⟩ := fun o => World.cell?_of_block hbk
  have hf : ∀ o, w'.frozen? ⟨bo, o, none⟩ = w.frozen? ⟨bo, o, none⟩ := fun o => World.frozen?_of_block hbk
  obtain ⟨⟨h0, h1, h2, h3, h4, h5, h6, h7, h8⟩, hf'⟩ := h
  exact ⟨⟨(hc _).trans h0, (hc _).trans h1, (hc _).trans h2, (hc _).trans h3, (hc _).trans h4, (hc _).trans h5, (hc _).trans h6, (hc _).trans h7, (hc _).trans h8⟩, fun o => (hf o).trans (hf' o)⟩
theorem Inv.got (h : Inv W B0 bo wr v1 v2 s g sq tm cnt lt ll) (hown : w'.ownsRow (bo + 1) 29 6 v' (g.length + 1) (pcells g ++ pcells [p])) (hg : wr.grownBy w' v2.ownBlock) (hf : ∀ b, v'.ownBlock = some b → v2.ownBlock = some b ∨ wr.heap.size ≤ b)
    (hp : Bd wr wr.heap.size p) (ha : Apart p bo) (hr : ∀ b, v1.ownBlock = some b ∨ v2.ownBlock = some b → Apart p b) : Inv W B0 bo w' v1 v' s (g ++ [p]) sq tm cnt lt ll := by
  have hbo : some bo ≠ v2.ownBlock := fun e => by have := (own_lt h.own2 e.symm).1; omega
  have hap : ∀ q, Bd wr wr.heap.size q → (∀ b, v1.ownBlock = some b ∨ v2.ownBlock = some b → Apart q b) → ∀ b, v1.ownBlock = some b ∨ v'.ownBlock = some b → Apart q b := by
    intro q hq hq2 b hb
    rcases hb with hb | hb
    · exact hq2 b (Or.inl hb)
    · rcases hf b hb with h' | h'
      · exact hq2 b (Or.inr h')
      · exact hq.apart_new h'
  refine ⟨?_, ?_, ?_, h.out.grown hg h.hi hbo, h.sqr, h.tmr, h.ltr, ?_, h.lo, Nat.lt_of_lt_of_le h.hi hg.size, ?_, ?_⟩
  · exact h.own1.kept hg (by
      cases hv : v1.ownBlock with
      | none => exact Or.inl rfl
      | some b => exact Or.inr fun e => h.apart b hv e.symm)
  · rw [pcells_append, List.length_append]; exact hown
  · intro b hb hb'
    rcases hf b hb' with h' | h'
    · exact h.apart b hb h'
    · have := (own_lt h.own1 hb).2; omega
  · exact h.below.grown hg (Nat.le_trans h.lo (Nat.le_of_lt h.hi)) (fun k e => by have := (own_lt h.own2 e).1; have := h.lo; omega)
  · intro q hq
    have hq' := h.b1 q hq
    exact ⟨hq'.1.step hg (fun b e => hq'.2.2 b (Or.inr e)), hq'.2.1, hap q hq'.1 hq'.2.2⟩
  · intro q hq
    rcases List.mem_append.1 hq with hq | hq
    · have hq' := h.b2 q hq
      exact ⟨hq'.1.step hg (fun b e => hq'.2.2 b (Or.inr e)), hq'.2.1, hap q hq'.1 hq'.2.2⟩
    · obtain rfl : q = p := by simpa using hq
      exact ⟨hp.step hg (fun b e => hr b (Or.inr e)), ha, hap q hp hr⟩
theorem Inv.sent (h : Inv W B0 bo wr v1 v2 s g sq tm cnt lt ll) (hown : w'.ownsRow (bo + 1) 29 6 v' (s.length + 1) (pcells s ++ pcells [p])) (hg : wr.grownBy w' v1.ownBlock) (hf : ∀ b, v'.ownBlock = some b → v1.ownBlock = some b ∨ wr.heap.size ≤ b)
    (hp : Bd wr wr.heap.size p) (ha : Apart p bo) (hr : ∀ b, v1.ownBlock = some b ∨ v2.ownBlock = some b → Apart p b) : Inv W B0 bo w' v' v2 (s ++ [p]) g sq tm cnt lt ll := by
  have hbo : some bo ≠ v1.ownBlock := fun e => by have := (own_lt h.own1 e.symm).1; omega
  have hap : ∀ q, Bd wr wr.heap.size q → (∀ b, v1.ownBlock = some b ∨ v2.ownBlock = some b → Apart q b) → ∀ b, v'.ownBlock = some b ∨ v2.ownBlock = some b → Apart q b := by
    intro q hq hq2 b hb
    rcases hb with hb | hb
    · rcases hf b hb with h' | h'
      · exact hq2 b (Or.inl h')
      · exact hq.apart_new h'
    · exact hq2 b (Or.inr hb)
  refine ⟨?_, ?_, ?_, h.out.grown hg h.hi hbo, h.sqr, h.tmr, h.ltr, ?_, h.lo, Nat.lt_of_lt_of_le h.hi hg.size, ?_, ?_⟩
  · rw [pcells_append, List.length_append]; exact hown
  · exact h.own2.kept hg (by
      cases hv : v2.ownBlock with
      | none => exact Or.inl rfl
      | some b => exact Or.inr fun e => h.apart b e.symm hv)
  · intro b hb hb'
    rcases hf b hb with h' | h'
    · exact h.apart b h' hb'
    · have := (own_lt h.own2 hb').2; omega
  · exact h.below.grown hg (Nat.le_trans h.lo (Nat.le_of_lt h.hi)) (fun k e => by have := (own_lt h.own1 e).1; have := h.lo; omega)
  · intro q hq
    rcases List.mem_append.1 hq with hq | hq
    · have hq' := h.b1 q hq
      exact ⟨hq'.1.step hg (fun b e => hq'.2.2 b (Or.inl e)), hq'.2.1, hap q hq'.1 hq'.2.2⟩
    · obtain rfl : q = p := by simpa using hq
      exact ⟨hp.step hg (fun b e => hr b (Or.inl e)), ha, hap q hp hr⟩
  · intro q hq
    have hq' := h.b2 q hq
    exact ⟨hq'.1.step hg (fun b e => hq'.2.2 b (Or.inl e)), hq'.2.1, hap q hq'.1 hq'.2.2⟩
end Go.Proofs.YtnndbnecgaelkaaDoor
