/- out.Next, a packet that may be. -/
import Derived.Test.YtnndbnecgaelkaaDoorG
import Derived.Deep.RegionHeld
namespace Go.Proofs.YtnndbnecgaelkaaDoor
set_option maxRecDepth 100000
open Go.RowKit

/-- an Out as it lies -/
def OutAt (w : World) (bo : Nat) (seq time sent lt ll : Int) : Prop :=
  (w.cell? ⟨bo, 0, none⟩ = some (.int .i64 seq) ∧ w.cell? ⟨bo, 1, none⟩ = some (.int .i64 time) ∧ w.cell? ⟨bo, 2, none⟩ = some (.int .i64 sent) ∧ w.cell? ⟨bo, 3, none⟩ = some (.int .i64 0) ∧ w.cell? ⟨bo, 4, none⟩ = some (.int .i64 lt) ∧ w.cell? ⟨bo, 5, none⟩ = some (.int .i64 ll) ∧ w.cell? ⟨bo, 6, none⟩ = some (.int .i64 0) ∧ w.cell? ⟨bo, 7, none⟩ = some (.bool false) ∧ w.cell? ⟨bo, 8, none⟩ = some (.slice none 0 0)) ∧ ∀ o, w.frozen? ⟨bo, o, none⟩ = false
theorem OutAt.below {w w' : World} {bo : Nat} {seq time sent lt ll : Int} (h : OutAt w bo seq time sent lt ll) {B : Nat} (hb : Below B w w') (hlt : bo < B) : OutAt w' bo seq time sent lt ll := by
  obtain ⟨⟨h0, h1, h2, h3, h4, h5, h6, h7, h8⟩, hf⟩ := h
  exact ⟨⟨(hb.cell hlt).trans h0, (hb.cell hlt).trans h1, (hb.cell hlt).trans h2, (hb.cell hlt).trans h3, (hb.cell hlt).trans h4, (hb.cell hlt).trans h5, (hb.cell hlt).trans h6, (hb.cell hlt).trans h7, (hb.cell hlt).trans h8⟩, fun o => (hb.frozen hlt).trans (hf o)⟩
theorem grown_set {a b : World} {g : Nat} (h : a.grownBy b (some g)) (o : Nat) (v : Value) : a.grownBy (b.setCell ⟨g, o, none⟩ v) (some g) :=
  ⟨h.os, h.tape, h.output, by simpa [World.setCell] using h.size, fun k hk hne => by
    rw [← h.block k hk hne]
    have : ¬ g = k := fun e => hne (by rw [e])
    simp [World.setCell, Array.getElem?_modify, this]⟩
theorem grown_set_new {a b : World} {g : Nat} {row : Option Nat} (h : a.grownBy b row) (hg : a.heap.size ≤ g) (o : Nat) (v : Value) : a.grownBy (b.setCell ⟨g, o, none⟩ v) row :=
  ⟨h.os, h.tape, h.output, by simpa [World.setCell] using h.size, fun k hk hne => by
    rw [← h.block k hk hne]
    have : ¬ g = k := fun e => by omega
    simp [World.setCell, Array.getElem?_modify, this]⟩
theorem grown_drewN {a b : World} {row : Option Nat} (h : a.grownBy b row) (n : Nat) : a.grownBy (b.drewN n) row := ⟨h.os, h.tape, h.output, h.size, h.block⟩
theorem grown_below {B : Nat} {a b c : World} {row : Option Nat} (h : a.grownBy b row) (k : Below B b c) (hB : a.heap.size ≤ B) : a.grownBy c row :=
  ⟨k.os.trans h.os, k.tape.trans h.tape, k.output.trans h.output, Nat.le_trans h.size k.size, fun j hj hne => (k.block j (by omega)).trans (h.block j hj hne)⟩
theorem RdB.grown {w w' : World} {A : Option Addr} {l : List Int} {bo : Nat} (h : RdB w w.heap.size A l) (hg : w.grownBy w' (some bo)) (hne : 0 < l.length → ∀ b o s, A = some ⟨b, o, s⟩ → b ≠ bo) : RdB w' w.heap.size A l := by
  intro hl
  obtain ⟨b, off, hA, hlt, hc⟩ := h hl
  exact ⟨b, off, hA, hlt, fun k m hm => hg.cell (hc k m hm) (fun e => hne hl b off none hA (by simpa using e))⟩
theorem Clone_new (A : Option Addr) (n c : Nat) (l : List Int) (w : World) (hl : l.length = n) (hr : RdB w w.heap.size A l) (hA : A = none → n = 0 ∧ c = 0) (hn : n ≤ 1000) :
    Calls Tryd.prog 22 #[.slice A n c] w fun e w' => ∃ A' c', e = .returned (.slice A' n c') ∧ RdB w' w'.heap.size A' l ∧ (A' = none → n = 0 ∧ c' = 0) ∧ (∀ b o s, A' = some ⟨b, o, s⟩ → w.heap.size ≤ b) ∧ Below w.heap.size w w' := Clone_any A n c l w hl hr hA hn
theorem Clone_at (p : Pk) (w : World) (h : Bd w w.heap.size p) (hn : p.n ≤ 1000) (W : World) (hW : Below w.heap.size w W) :
    Calls Tryd.prog 22 #[.slice p.A p.n p.c] W fun e w' => ∃ A' c', e = .returned (.slice A' p.n c') ∧ RdB w' w'.heap.size A' p.body ∧ (A' = none → p.n = 0 ∧ c' = 0) ∧ (∀ b o s, A' = some ⟨b, o, s⟩ → w.heap.size ≤ b) ∧ Below w.heap.size w w' :=
  (Clone_new p.A p.n p.c p.body W h.1 ((h.2.2.1.below hW).more hW.size) h.2.2.2 hn).mono fun e w' ⟨A', c', h1, h2, h3, h4, h5⟩ => ⟨A', c', h1, h2, h3, fun b o s e => Nat.le_trans hW.size (h4 b o s e), hW.trans (h5.mono hW.size)⟩
theorem OutAt.set {w : World} {bo b1 : Nat} {seq time sent lt ll : Int} (h : OutAt w bo seq time sent lt ll) (n : ¬ bo = b1) (o : Nat) (v : Value) : OutAt (w.setCell ⟨b1, o, none⟩ v) bo seq time sent lt ll := by
  have fr := fun o' => World.cell?_setCell_far w ⟨b1, o, none⟩ ⟨bo, o', none⟩ v (fun e => n e.symm)
  obtain ⟨⟨h0, h1, h2, h3, h4, h5, h6, h7, h8⟩, hf⟩ := h
  exact ⟨⟨(fr _).trans h0, (fr _).trans h1, (fr _).trans h2, (fr _).trans h3, (fr _).trans h4, (fr _).trans h5, (fr _).trans h6, (fr _).trans h7, (fr _).trans h8⟩, fun o' => by rw [World.frozen?_setCell]; exact hf o'⟩
theorem RdB.set {w : World} {B b1 : Nat} {A : Option Addr} {l : List Int} (h : RdB w B A l) (hne : ∀ b o s, A = some ⟨b, o, s⟩ → b ≠ b1) (o : Nat) (v : Value) : RdB (w.setCell ⟨b1, o, none⟩ v) B A l := by
  intro hl
  obtain ⟨b, off, hA, hlt, hc⟩ := h hl
  exact ⟨b, off, hA, hlt, fun k m hm => (World.cell?_setCell_far w ⟨b1, o, none⟩ ⟨b, off + k, none⟩ v (fun e => hne b off none hA e.symm)).trans (hc k m hm)⟩
theorem next_end {w w3 w4 W5 : World} {p : Pk} {bo b1 b2 : Nat} {seq t2 sent2 : Int} {A' : Option Addr} (u0 u1 u5 v0 v1 v2 v3 v4 v5 : Value) (HO3 : OutAt w3 bo seq t2 sent2 p.time p.layer) (hb3 : bo < w3.heap.size) (n1 : ¬ bo = b1) (n2 : ¬ bo = b2) (hg3 : w.grownBy w3 (some bo)) (hb4 : Below w3.heap.size w3 w4) (l1 : w.heap.size ≤ b1) (l2 : w.heap.size ≤ b2) (k1 : b1 < w3.heap.size) (k2 : b2 < w3.heap.size) (hrd : RdB w4 w4.heap.size A' p.body) (hnew : ∀ b o s, A' = some ⟨b, o, s⟩ → w3.heap.size ≤ b)
    (hE : ∀ B, Below B (((((((((w4.setCell ⟨b1, 0, none⟩ u0).setCell ⟨b1, 1, none⟩ u1).setCell ⟨b1, 5, none⟩ u5).setCell ⟨b2, 0, none⟩ v0).setCell ⟨b2, 1, none⟩ v1).setCell ⟨b2, 2, none⟩ v2).setCell ⟨b2, 3, none⟩ v3).setCell ⟨b2, 4, none⟩ v4).setCell ⟨b2, 5, none⟩ v5) W5) :
    OutAt W5 bo seq t2 sent2 p.time p.layer ∧ RdB W5 W5.heap.size A' p.body ∧ (∀ b o s, A' = some ⟨b, o, s⟩ → w.heap.size ≤ b) ∧ w.grownBy W5 (some bo) := by
  have h1 := fun b o s e => Nat.ne_of_gt (Nat.lt_of_lt_of_le k1 (hnew b o s e))
  have h2 := fun b o s e => Nat.ne_of_gt (Nat.lt_of_lt_of_le k2 (hnew b o s e))
  refine ⟨?_, ?_, fun b o s e => Nat.le_trans hg3.size (hnew b o s e), ?_⟩
  · exact ((((((((((HO3.below hb4 hb3).set n1 _ _).set n1 _ _).set n1 _ _).set n2 _ _).set n2 _ _).set n2 _ _).set n2 _ _).set n2 _ _).set n2 _ _).below (hE _) (Nat.lt_succ_self _)
  · have := ((((((((((hrd.set h1 0 u0).set h1 1 u1).set h1 5 u5).set h2 0 v0).set h2 1 v1).set h2 2 v2).set h2 3 v3).set h2 4 v4).set h2 5 v5).below (hE _))
    exact this.more (by have := (hE 0).size; simp only [World.setCell, Array.size_modify] at this; exact this)
  · exact grown_below (grown_set_new (grown_set_new (grown_set_new (grown_set_new (grown_set_new (grown_set_new (grown_set_new (grown_set_new (grown_set_new (grown_below hg3 hb4 hg3.size) l1 _ _) l1 _ _) l1 _ _) l2 _ _) l2 _ _) l2 _ _) l2 _ _) l2 _ _) l2 _ _) (hE w.heap.size) (Nat.le_refl _)

set_option maxHeartbeats 16000000 in
theorem Next_first (p : Pk) (bo : Nat) (seq time sent lt ll : Int) (w : World) (hk : chkP p = 0) (ho : OutAt w bo seq time sent lt ll) (hbo : bo < w.heap.size) (hpb : Bd w w.heap.size p) (hpa : 0 < p.body.length → ∀ b o s, p.A = some ⟨b, o, s⟩ → b ≠ bo) (hss : 0 ≤ sent ∧ sent ≤ 1000) (hsq : 0 ≤ seq ∧ seq ≤ 65535) (htm : 0 ≤ time ∧ time ≤ 4294967295) (hlt : 0 ≤ lt ∧ lt ≤ 4294967295) (hss0 : sent = 0) :
    Calls Tryd.prog 8 #[.pointer (some ⟨bo, 0, none⟩), .agg #[.int .i64 p.seq, .int .i64 p.time, .int .i64 p.layer, .int .i64 p.level, .bool p.start, .slice p.A p.n p.c]] w fun e w' => ∃ A' c' t', e = .returned (.tuple #[.agg #[.int .i64 seq, .int .i64 t', .int .i64 p.layer, .int .i64 p.level, .bool p.start, .slice A' p.n c'], .nilIface]) ∧ (0 ≤ t' ∧ t' ≤ 4294967295) ∧ OutAt w' bo seq t' (sent + 1) p.time p.layer ∧ RdB w' w'.heap.size A' p.body ∧ (A' = none → p.n = 0 ∧ c' = 0) ∧ (∀ b o s, A' = some ⟨b, o, s⟩ → w.heap.size ≤ b) ∧ w.grownBy w' (some bo) := by
  have hok := chkP_zero hk
  have hbd := hok.1
  unfold badP at hbd
  have HK := Lib.hid hk; have HPB := Lib.hid hpb; have HPA := Lib.hid hpa; have HN := Lib.hid hok.2
  have HPt : Hid (0 ≤ p.time ∧ p.time ≤ 4294967295) := Lib.hid (by omega)
  clear hk hpb hpa hok hbd
  obtain ⟨⟨h0, h1, h2, h3, h4, h5, h6, h7, h8⟩, hf⟩ := ho
  have hb : ∀ o1 o2, Below w.heap.size w ((w.alloc o1).alloc o2) := fun o1 o2 => ((Below.refl _ _).alloc (Nat.le_refl _) _).alloc (by simp) _
  have HB := Lib.hid hb; clear hb
  obtain ⟨b1, hb1⟩ : ∃ b1, b1 = w.heap.size := ⟨_, rfl⟩
  obtain ⟨b2, hb2⟩ : ∃ b2, b2 = w.heap.size + 1 := ⟨_, rfl⟩
  go_enter Tryd.func8, Tryd.ntmps8
  go_wp2_with fail
  obtain ⟨W1, hW1⟩ : ∃ W1, W1 = (w.alloc (.cells #[.int .i64 p.seq, .int .i64 p.time, .int .i64 p.layer, .int .i64 p.level, .bool p.start, .slice p.A p.n p.c] 29)).alloc (.cells #[.int .i64 0, .int .i64 0, .int .i64 0, .int .i64 0, .bool false, .slice none 0 0] 29) := ⟨_, rfl⟩
  rw [← hW1]
  have hz : W1.heap.size = w.heap.size + 2 := by rw [hW1]; simp
  have hbW : Below w.heap.size w W1 := by rw [hW1]; exact HB.out _ _
  have p0 : W1.cell? ⟨w.heap.size, 0, none⟩ = some (.int .i64 p.seq) := by rw [hW1]; simp
  have p1 : W1.cell? ⟨w.heap.size, 1, none⟩ = some (.int .i64 p.time) := by rw [hW1]; simp
  have p2 : W1.cell? ⟨w.heap.size, 2, none⟩ = some (.int .i64 p.layer) := by rw [hW1]; simp
  have p3 : W1.cell? ⟨w.heap.size, 3, none⟩ = some (.int .i64 p.level) := by rw [hW1]; simp
  have p4 : W1.cell? ⟨w.heap.size, 4, none⟩ = some (.bool p.start) := by rw [hW1]; simp
  have p5 : W1.cell? ⟨w.heap.size, 5, none⟩ = some (.slice p.A p.n p.c) := by rw [hW1]; simp
  have z0 : W1.cell? ⟨w.heap.size + 1, 0, none⟩ = some (.int .i64 0) := by rw [hW1]; simp
  have z1 : W1.cell? ⟨w.heap.size + 1, 1, none⟩ = some (.int .i64 0) := by rw [hW1]; simp
  have z2 : W1.cell? ⟨w.heap.size + 1, 2, none⟩ = some (.int .i64 0) := by rw [hW1]; simp
  have z3 : W1.cell? ⟨w.heap.size + 1, 3, none⟩ = some (.int .i64 0) := by rw [hW1]; simp
  have z4 : W1.cell? ⟨w.heap.size + 1, 4, none⟩ = some (.bool false) := by rw [hW1]; simp
  have z5 : W1.cell? ⟨w.heap.size + 1, 5, none⟩ = some (.slice none 0 0) := by rw [hW1]; simp
  have pf : ∀ o, W1.frozen? ⟨w.heap.size, o, none⟩ = false := by intro o; rw [hW1]; exact (((Below.refl _ (w.alloc _)).alloc (Nat.le_refl _) _).frozen (p := ⟨w.heap.size, o, none⟩) (by simp)).trans (World.frozen?_alloc_at (w := w) _ _ w.heap.size o rfl)
  have zf : ∀ o, W1.frozen? ⟨w.heap.size + 1, o, none⟩ = false := by intro o; rw [hW1]; exact World.frozen?_alloc_at (w := w.alloc _) _ _ (w.heap.size + 1) o (by simp)
  refine (Check_ok p W1 HK.out).mono ?_
  rintro e w2 ⟨rfl, hbc⟩
  have hbc2 : Below w.heap.size w w2 := hbW.trans (hbc.mono (by omega))
  have l1 : w.heap.size < W1.heap.size := by omega
  have l2 : w.heap.size + 1 < W1.heap.size := by omega
  have p0 := (hbc.cell (p := ⟨w.heap.size, 0, none⟩) l1).trans p0
  have p1 := (hbc.cell (p := ⟨w.heap.size, 1, none⟩) l1).trans p1
  have p2 := (hbc.cell (p := ⟨w.heap.size, 2, none⟩) l1).trans p2
  have p3 := (hbc.cell (p := ⟨w.heap.size, 3, none⟩) l1).trans p3
  have p4 := (hbc.cell (p := ⟨w.heap.size, 4, none⟩) l1).trans p4
  have p5 := (hbc.cell (p := ⟨w.heap.size, 5, none⟩) l1).trans p5
  have z0 := (hbc.cell (p := ⟨w.heap.size + 1, 0, none⟩) l2).trans z0
  have z1 := (hbc.cell (p := ⟨w.heap.size + 1, 1, none⟩) l2).trans z1
  have z2 := (hbc.cell (p := ⟨w.heap.size + 1, 2, none⟩) l2).trans z2
  have z3 := (hbc.cell (p := ⟨w.heap.size + 1, 3, none⟩) l2).trans z3
  have z4 := (hbc.cell (p := ⟨w.heap.size + 1, 4, none⟩) l2).trans z4
  have z5 := (hbc.cell (p := ⟨w.heap.size + 1, 5, none⟩) l2).trans z5
  have h0 := (hbc2.cell (p := ⟨bo, 0, none⟩) hbo).trans h0
  have h1 := (hbc2.cell (p := ⟨bo, 1, none⟩) hbo).trans h1
  have h2 := (hbc2.cell (p := ⟨bo, 2, none⟩) hbo).trans h2
  have h3 := (hbc2.cell (p := ⟨bo, 3, none⟩) hbo).trans h3
  have h4 := (hbc2.cell (p := ⟨bo, 4, none⟩) hbo).trans h4
  have h5 := (hbc2.cell (p := ⟨bo, 5, none⟩) hbo).trans h5
  have h6 := (hbc2.cell (p := ⟨bo, 6, none⟩) hbo).trans h6
  have h7 := (hbc2.cell (p := ⟨bo, 7, none⟩) hbo).trans h7
  have h8 := (hbc2.cell (p := ⟨bo, 8, none⟩) hbo).trans h8
  have pf0 := (hbc.frozen (p := ⟨w.heap.size, 0, none⟩) l1).trans (pf 0)
  have pf1 := (hbc.frozen (p := ⟨w.heap.size, 1, none⟩) l1).trans (pf 1)
  have pf2 := (hbc.frozen (p := ⟨w.heap.size, 2, none⟩) l1).trans (pf 2)
  have pf3 := (hbc.frozen (p := ⟨w.heap.size, 3, none⟩) l1).trans (pf 3)
  have pf4 := (hbc.frozen (p := ⟨w.heap.size, 4, none⟩) l1).trans (pf 4)
  have pf5 := (hbc.frozen (p := ⟨w.heap.size, 5, none⟩) l1).trans (pf 5)
  have zf0 := (hbc.frozen (p := ⟨w.heap.size + 1, 0, none⟩) l2).trans (zf 0)
  have zf1 := (hbc.frozen (p := ⟨w.heap.size + 1, 1, none⟩) l2).trans (zf 1)
  have zf2 := (hbc.frozen (p := ⟨w.heap.size + 1, 2, none⟩) l2).trans (zf 2)
  have zf3 := (hbc.frozen (p := ⟨w.heap.size + 1, 3, none⟩) l2).trans (zf 3)
  have zf4 := (hbc.frozen (p := ⟨w.heap.size + 1, 4, none⟩) l2).trans (zf 4)
  have zf5 := (hbc.frozen (p := ⟨w.heap.size + 1, 5, none⟩) l2).trans (zf 5)
  have hf0 := (hbc2.frozen (p := ⟨bo, 0, none⟩) hbo).trans (hf 0)
  have hf1 := (hbc2.frozen (p := ⟨bo, 1, none⟩) hbo).trans (hf 1)
  have hf2 := (hbc2.frozen (p := ⟨bo, 2, none⟩) hbo).trans (hf 2)
  have hf3 := (hbc2.frozen (p := ⟨bo, 3, none⟩) hbo).trans (hf 3)
  have hf4 := (hbc2.frozen (p := ⟨bo, 4, none⟩) hbo).trans (hf 4)
  have hf5 := (hbc2.frozen (p := ⟨bo, 5, none⟩) hbo).trans (hf 5)
  have hf6 := (hbc2.frozen (p := ⟨bo, 6, none⟩) hbo).trans (hf 6)
  have hf7 := (hbc2.frozen (p := ⟨bo, 7, none⟩) hbo).trans (hf 7)
  have hf8 := (hbc2.frozen (p := ⟨bo, 8, none⟩) hbo).trans (hf 8)
  have HB2 := Lib.hid hbc2; have HZ := Lib.hid (show b1 + 2 ≤ w2.heap.size by have := hbc.size; omega)
  have HF := Lib.hid (fun o => (hbc2.frozen (p := ⟨bo, o, none⟩) hbo).trans (hf o))
  rw [← hb2] at z0 z1 z2 z3 z4 z5 zf0 zf1 zf2 zf3 zf4 zf5
  rw [← hb1] at p0 p1 p2 p3 p4 p5 pf0 pf1 pf2 pf3 pf4 pf5
  rw [← hb2, ← hb1]
  have n1 : ¬ bo = b1 := by omega
  have n2 : ¬ bo = b2 := by omega
  have n3 : ¬ b1 = bo := by omega
  have n4 : ¬ b2 = bo := by omega
  have n5 : ¬ b1 = b2 := by omega
  have n6 : ¬ b2 = b1 := by omega
  have HB1 := Lib.hid hb1; have HB2e := Lib.hid hb2; have HBo := Lib.hid hbo
  clear hW1 hbW hbc hbc2 pf zf hf hz l1 l2 hb1 hb2 hbo
  have hs0 : sent = 0 := by omega
  have hd : decide (0 < sent) = false := by simp; omega
  have HS0 := Lib.hid hs0; clear hs0 hss0
  go_wp2_with fail
  obtain ⟨w3, hw3⟩ : ∃ w3, w3 = ((((((w2.setCell ⟨bo, 2, none⟩ (.int .i64 (sent + 1))).setCell ⟨bo, 3, none⟩ (.int .i64 0)).setCell ⟨bo, 4, none⟩ (.int .i64 p.time)).setCell ⟨bo, 5, none⟩ (.int .i64 p.layer)).setCell ⟨bo, 6, none⟩ (.int .i64 0)).setCell ⟨bo, 7, none⟩ (.bool false)).setCell ⟨bo, 8, none⟩ (.slice none 0 0) := ⟨_, rfl⟩
  rw [← hw3]
  have hz3 : w3.heap.size = w2.heap.size := by rw [hw3]; simp
  have hg3 : w.grownBy w3 (some bo) := by rw [hw3]; exact (grown_set (grown_set (grown_set (grown_set (grown_set (grown_set (grown_set (grown_of_below HB2.out) _ _) _ _) _ _) _ _) _ _) _ _) _ _)
  have o0 : w3.cell? ⟨bo, 0, none⟩ = some (.int .i64 seq) := by rw [hw3]; simp [go_sem, h0, h1, h2, h3, h4, h5, h6, h7, h8]
  have o1 : w3.cell? ⟨bo, 1, none⟩ = some (.int .i64 time) := by rw [hw3]; simp [go_sem, h0, h1, h2, h3, h4, h5, h6, h7, h8]
  have o2 : w3.cell? ⟨bo, 2, none⟩ = some (.int .i64 (sent + 1)) := by rw [hw3]; simp [go_sem, h0, h1, h2, h3, h4, h5, h6, h7, h8]
  have o3 : w3.cell? ⟨bo, 3, none⟩ = some (.int .i64 0) := by rw [hw3]; simp [go_sem, h0, h1, h2, h3, h4, h5, h6, h7, h8]
  have o4 : w3.cell? ⟨bo, 4, none⟩ = some (.int .i64 p.time) := by rw [hw3]; simp [go_sem, h0, h1, h2, h3, h4, h5, h6, h7, h8]
  have o5 : w3.cell? ⟨bo, 5, none⟩ = some (.int .i64 p.layer) := by rw [hw3]; simp [go_sem, h0, h1, h2, h3, h4, h5, h6, h7, h8]
  have o6 : w3.cell? ⟨bo, 6, none⟩ = some (.int .i64 0) := by rw [hw3]; simp [go_sem, h0, h1, h2, h3, h4, h5, h6, h7, h8]
  have o7 : w3.cell? ⟨bo, 7, none⟩ = some (.bool false) := by rw [hw3]; simp [go_sem, h0, h1, h2, h3, h4, h5, h6, h7, h8]
  have o8 : w3.cell? ⟨bo, 8, none⟩ = some (.slice none 0 0) := by rw [hw3]; simp [go_sem, h0, h1, h2, h3, h4, h5, h6, h7, h8]
  have of : ∀ o, w3.frozen? ⟨bo, o, none⟩ = false := by intro o; rw [hw3]; simp [HF.out]
  have cdn := fun (W : World) (n : Nat) (a : Addr) => (rfl : (W.drewN n).cell? a = W.cell? a)
  have fr1 := fun (W : World) (o o' : Nat) (v : Value) => (World.cell?_setCell_far W ⟨bo, o, none⟩ ⟨b1, o', none⟩ v n1)
  have fr2 := fun (W : World) (o o' : Nat) (v : Value) => (World.cell?_setCell_far W ⟨bo, o, none⟩ ⟨b2, o', none⟩ v n2)
  have q0 : w3.cell? ⟨b1, 0, none⟩ = some (.int .i64 p.seq) := by rw [hw3]; simp [go_sem, fr1, p0]
  have q1 : w3.cell? ⟨b1, 1, none⟩ = some (.int .i64 p.time) := by rw [hw3]; simp [go_sem, fr1, p1]
  have q2 : w3.cell? ⟨b1, 2, none⟩ = some (.int .i64 p.layer) := by rw [hw3]; simp [go_sem, fr1, p2]
  have q3 : w3.cell? ⟨b1, 3, none⟩ = some (.int .i64 p.level) := by rw [hw3]; simp [go_sem, fr1, p3]
  have q4 : w3.cell? ⟨b1, 4, none⟩ = some (.bool p.start) := by rw [hw3]; simp [go_sem, fr1, p4]
  have q5 : w3.cell? ⟨b1, 5, none⟩ = some (.slice p.A p.n p.c) := by rw [hw3]; simp [go_sem, fr1, p5]
  have y0 : w3.cell? ⟨b2, 0, none⟩ = some (.int .i64 0) := by rw [hw3]; simp [go_sem, fr2, z0]
  have y1 : w3.cell? ⟨b2, 1, none⟩ = some (.int .i64 0) := by rw [hw3]; simp [go_sem, fr2, z1]
  have y2 : w3.cell? ⟨b2, 2, none⟩ = some (.int .i64 0) := by rw [hw3]; simp [go_sem, fr2, z2]
  have y3 : w3.cell? ⟨b2, 3, none⟩ = some (.int .i64 0) := by rw [hw3]; simp [go_sem, fr2, z3]
  have y4 : w3.cell? ⟨b2, 4, none⟩ = some (.bool false) := by rw [hw3]; simp [go_sem, fr2, z4]
  have y5 : w3.cell? ⟨b2, 5, none⟩ = some (.slice none 0 0) := by rw [hw3]; simp [go_sem, fr2, z5]
  have qf0 : w3.frozen? ⟨b1, 0, none⟩ = false := by rw [hw3]; simp [pf0]
  have qf1 : w3.frozen? ⟨b1, 1, none⟩ = false := by rw [hw3]; simp [pf1]
  have qf2 : w3.frozen? ⟨b1, 2, none⟩ = false := by rw [hw3]; simp [pf2]
  have qf3 : w3.frozen? ⟨b1, 3, none⟩ = false := by rw [hw3]; simp [pf3]
  have qf4 : w3.frozen? ⟨b1, 4, none⟩ = false := by rw [hw3]; simp [pf4]
  have qf5 : w3.frozen? ⟨b1, 5, none⟩ = false := by rw [hw3]; simp [pf5]
  have yf0 : w3.frozen? ⟨b2, 0, none⟩ = false := by rw [hw3]; simp [zf0]
  have yf1 : w3.frozen? ⟨b2, 1, none⟩ = false := by rw [hw3]; simp [zf1]
  have yf2 : w3.frozen? ⟨b2, 2, none⟩ = false := by rw [hw3]; simp [zf2]
  have yf3 : w3.frozen? ⟨b2, 3, none⟩ = false := by rw [hw3]; simp [zf3]
  have yf4 : w3.frozen? ⟨b2, 4, none⟩ = false := by rw [hw3]; simp [zf4]
  have yf5 : w3.frozen? ⟨b2, 5, none⟩ = false := by rw [hw3]; simp [zf5]
  have HO3 : Hid (OutAt w3 bo seq time (sent + 1) p.time p.layer) := Lib.hid ⟨⟨o0, o1, o2, o3, o4, o5, o6, o7, o8⟩, of⟩
  have HG3 := Lib.hid hg3; have HZ3 := Lib.hid (show b1 + 2 ≤ w3.heap.size by rw [hz3]; exact HZ.out)
  have HPB3 : Hid (Bd w3 w3.heap.size p) := Lib.hid ⟨HPB.out.1, HPB.out.2.1, (HPB.out.2.2.1.grown hg3 HPA.out).more (by have := HZ.out; have := HB1.out; rw [hz3]; omega), HPB.out.2.2.2⟩
  have hb3 : bo < w3.heap.size := by have := HZ3.out; have := HBo.out; have := HB1.out; omega
  have hl1 : b1 < w3.heap.size := by have := HZ3.out; omega
  have hl2 : b2 < w3.heap.size := by have := HZ3.out; have := HB2e.out; have := HB1.out; omega
  clear hw3 hz3 hg3 h0 h1 h2 h3 h4 h5 h6 h7 h8 hf0 hf1 hf2 hf3 hf4 hf5 hf6 hf7 hf8 p0 p1 p2 p3 p4 p5 z0 z1 z2 z3 z4 z5 pf0 pf1 pf2 pf3 pf4 pf5 zf0 zf1 zf2 zf3 zf4 zf5 o2 o3 o4 o5 o6 o7 o8 of fr1 fr2 cdn
  go_region_with (first | (go_at_call 22; refine (Clone_at p w3 HPB3.out HN.out _ (by exact ⟨rfl, rfl, rfl, Nat.le_refl _, fun _ _ => rfl⟩)).mono ?_; rintro e w4 ⟨A', c', rfl, hrd, hnil, hnew, hb4⟩; have HRd := Lib.hid hrd; have HNi := Lib.hid hnil; have HNw := Lib.hid hnew; have HB4 := Lib.hid hb4; have s0 := (hb4.cell (p := ⟨bo, 0, none⟩) hb3).trans o0; have s1 := (hb4.cell (p := ⟨bo, 1, none⟩) hb3).trans o1; have tt0 := (hb4.cell (p := ⟨b1, 0, none⟩) hl1).trans q0; have x0 := (hb4.cell (p := ⟨b2, 0, none⟩) hl2).trans y0; have tf0 := (hb4.frozen (p := ⟨b1, 0, none⟩) hl1).trans qf0; have xf0 := (hb4.frozen (p := ⟨b2, 0, none⟩) hl2).trans yf0; have tt1 := (hb4.cell (p := ⟨b1, 1, none⟩) hl1).trans q1; have x1 := (hb4.cell (p := ⟨b2, 1, none⟩) hl2).trans y1; have tf1 := (hb4.frozen (p := ⟨b1, 1, none⟩) hl1).trans qf1; have xf1 := (hb4.frozen (p := ⟨b2, 1, none⟩) hl2).trans yf1; have tt2 := (hb4.cell (p := ⟨b1, 2, none⟩) hl1).trans q2; have x2 := (hb4.cell (p := ⟨b2, 2, none⟩) hl2).trans y2; have tf2 := (hb4.frozen (p := ⟨b1, 2, none⟩) hl1).trans qf2; have xf2 := (hb4.frozen (p := ⟨b2, 2, none⟩) hl2).trans yf2; have tt3 := (hb4.cell (p := ⟨b1, 3, none⟩) hl1).trans q3; have x3 := (hb4.cell (p := ⟨b2, 3, none⟩) hl2).trans y3; have tf3 := (hb4.frozen (p := ⟨b1, 3, none⟩) hl1).trans qf3; have xf3 := (hb4.frozen (p := ⟨b2, 3, none⟩) hl2).trans yf3; have tt4 := (hb4.cell (p := ⟨b1, 4, none⟩) hl1).trans q4; have x4 := (hb4.cell (p := ⟨b2, 4, none⟩) hl2).trans y4; have tf4 := (hb4.frozen (p := ⟨b1, 4, none⟩) hl1).trans qf4; have xf4 := (hb4.frozen (p := ⟨b2, 4, none⟩) hl2).trans yf4; have tt5 := (hb4.cell (p := ⟨b1, 5, none⟩) hl1).trans q5; have x5 := (hb4.cell (p := ⟨b2, 5, none⟩) hl2).trans y5; have tf5 := (hb4.frozen (p := ⟨b1, 5, none⟩) hl1).trans qf5; have xf5 := (hb4.frozen (p := ⟨b2, 5, none⟩) hl2).trans yf5; clear hrd hnil hnew hb4))
  all_goals (
    go_wp2
    refine bodyPost_ret (v := .tuple #[.agg #[.int .i64 seq, .int .i64 time, .int .i64 p.layer, .int .i64 p.level, .bool p.start, (.slice A' p.n c')], .nilIface]) (by simp [results, Tryd.results8, go_sem, x0, xf0, x1, xf1, x2, xf2, x3, xf3, x4, xf4, x5, xf5]) rfl ⟨A', c', _, rfl, htm, ?_⟩
    have hend := next_end (w := w) (b1 := b1) (b2 := b2) (.int .i64 seq) (.int .i64 time) (.slice A' p.n c') (.int .i64 seq) (.int .i64 time) (.int .i64 p.layer) (.int .i64 p.level) (.bool p.start) (.slice A' p.n c') HO3.out hb3 n1 n2 HG3.out HB4.out (by rw [HB1.out]; exact Nat.le_refl _) (by rw [HB2e.out]; exact Nat.le_succ _) hl1 hl2 HRd.out HNw.out (fun _ => by exact ⟨rfl, rfl, rfl, Nat.le_refl _, fun _ _ => rfl⟩)
    exact ⟨hend.1, hend.2.1, HNi.out, hend.2.2.1, hend.2.2.2⟩)
end Go.Proofs.YtnndbnecgaelkaaDoor
