/- Packets in memory. -/
import Derived.Test.YtnndbnecgaelkaaDoorTold
namespace Go.Proofs.YtnndbnecgaelkaaDoor
open Go.RowKit

structure Pk where
  seq : Int
  time : Int
  layer : Int
  level : Int
  start : Bool
  A : Option Addr
  n : Nat
  c : Nat
  body : List Int
def pcells : List Pk → List Value
  | [] => []
  | p :: r => .int .i64 p.seq :: .int .i64 p.time :: .int .i64 p.layer :: .int .i64 p.level :: .bool p.start :: .slice p.A p.n p.c :: pcells r
theorem pcells_length (l : List Pk) : (pcells l).length = l.length * 6 := by
  induction l with
  | nil => rfl
  | cons m r ih => simp [pcells, ih]; omega
theorem pcells_append (a b : List Pk) : pcells (a ++ b) = pcells a ++ pcells b := by
  induction a with
  | nil => rfl
  | cons m r ih => simp [pcells, ih]
theorem one_pcells (l : List Pk) : ∀ u ∈ pcells l, u.oneCell' = true := by
  induction l with
  | nil => simp [pcells]
  | cons m r ih => intro u hu; simp only [pcells, List.mem_cons] at hu; rcases hu with rfl | rfl | rfl | rfl | rfl | rfl | hu <;> first | rfl | exact ih u hu
theorem pcells_at (l : List Pk) (k : Nat) (m : Pk) (h : l[k]? = some m) : (pcells l)[k * 6]? = some (.int .i64 m.seq) ∧ (pcells l)[k * 6 + 1]? = some (.int .i64 m.time) ∧ (pcells l)[k * 6 + 2]? = some (.int .i64 m.layer) ∧ (pcells l)[k * 6 + 3]? = some (.int .i64 m.level) ∧ (pcells l)[k * 6 + 4]? = some (.bool m.start) ∧ (pcells l)[k * 6 + 5]? = some (.slice m.A m.n m.c) := by
  induction l generalizing k with
  | nil => simp at h
  | cons a r ih =>
    cases k with
    | zero => simp at h; subst h; simp [pcells]
    | succ k =>
      have := ih k (by simpa using h)
      rw [show (k + 1) * 6 = k * 6 + 1 + 1 + 1 + 1 + 1 + 1 from by omega,
        show k * 6 + 1 + 1 + 1 + 1 + 1 + 1 + 1 = (k * 6 + 1) + 1 + 1 + 1 + 1 + 1 + 1 from by omega,
        show k * 6 + 1 + 1 + 1 + 1 + 1 + 1 + 2 = (k * 6 + 2) + 1 + 1 + 1 + 1 + 1 + 1 from by omega,
        show k * 6 + 1 + 1 + 1 + 1 + 1 + 1 + 3 = (k * 6 + 3) + 1 + 1 + 1 + 1 + 1 + 1 from by omega,
        show k * 6 + 1 + 1 + 1 + 1 + 1 + 1 + 4 = (k * 6 + 4) + 1 + 1 + 1 + 1 + 1 + 1 from by omega,
        show k * 6 + 1 + 1 + 1 + 1 + 1 + 1 + 5 = (k * 6 + 5) + 1 + 1 + 1 + 1 + 1 + 1 from by omega]
      simpa [pcells] using this

/-- bytes -/
def RdB (w : World) (B : Nat) (A : Option Addr) (l : List Int) : Prop :=
  0 < l.length → ∃ b off, A = some ⟨b, off, none⟩ ∧ b < B ∧ ∀ (k : Nat) (m : Int), l[k]? = some m → w.cell? ⟨b, off + k, none⟩ = some (.int .u8 m)
theorem RdB.below {w w' : World} {B : Nat} {A : Option Addr} {l : List Int} (h : RdB w B A l) (hb : Below B w w') : RdB w' B A l := by
  intro hl
  obtain ⟨b, off, hA, hlt, hc⟩ := h hl
  exact ⟨b, off, hA, hlt, fun k m hm => (hb.cell hlt).trans (hc k m hm)⟩
theorem RdB.more {w : World} {B B' : Nat} {A : Option Addr} {l : List Int} (h : RdB w B A l) (hb : B ≤ B') : RdB w B' A l := by
  intro hl
  obtain ⟨b, off, hA, hlt, hc⟩ := h hl
  exact ⟨b, off, hA, by omega, hc⟩
theorem RdB.at_ {w w' : World} {B : Nat} {A : Option Addr} {l : List Int} (h : RdB w B A l) (hb : Below B w w') {k : Nat} (hk : k < l.length) :
    ∃ (b off : Nat) (m : Int), A = some ⟨b, off, none⟩ ∧ b < B ∧ l[k]? = some m ∧ w'.cell? ⟨b, off + k, none⟩ = some (.int .u8 m) := by
  obtain ⟨b, off, hA, hlt, hc⟩ := (h.below hb) (by omega)
  exact ⟨b, off, l[k], hA, hlt, List.getElem?_eq_getElem hk, hc k _ (List.getElem?_eq_getElem hk)⟩
theorem RdB.nil {w : World} {B : Nat} {A : Option Addr} : RdB w B A [] := fun h => absurd h (by simp)
/-- a body that reads -/
def Bd (w : World) (B : Nat) (p : Pk) : Prop := p.body.length = p.n ∧ p.n ≤ 9223372036854775807 ∧ RdB w B p.A p.body ∧ (p.A = none → p.n = 0 ∧ p.c = 0)
theorem Bd.below {w w' : World} {B : Nat} {p : Pk} (h : Bd w B p) (hb : Below B w w') : Bd w' B p := ⟨h.1, h.2.1, h.2.2.1.below hb, h.2.2.2⟩
theorem Bd.more {w : World} {B B' : Nat} {p : Pk} (h : Bd w B p) (hb : B ≤ B') : Bd w B' p := ⟨h.1, h.2.1, h.2.2.1.more hb, h.2.2.2⟩

/-- a slice of packets reads as a list -/
def RdP (w : World) (B : Nat) (A : Option Addr) (l : List Pk) : Prop :=
  (0 < l.length → ∃ b off, A = some ⟨b, off, none⟩ ∧ b < B ∧ ∀ (k : Nat) (m : Pk), l[k]? = some m →
    w.cell? ⟨b, off + k * 6, none⟩ = some (.int .i64 m.seq) ∧ w.cell? ⟨b, off + k * 6 + 1, none⟩ = some (.int .i64 m.time) ∧ w.cell? ⟨b, off + k * 6 + 2, none⟩ = some (.int .i64 m.layer) ∧ w.cell? ⟨b, off + k * 6 + 3, none⟩ = some (.int .i64 m.level) ∧ w.cell? ⟨b, off + k * 6 + 4, none⟩ = some (.bool m.start) ∧ w.cell? ⟨b, off + k * 6 + 5, none⟩ = some (.slice m.A m.n m.c))
  ∧ ∀ m ∈ l, Bd w B m
theorem RdP.below {w w' : World} {B : Nat} {A : Option Addr} {l : List Pk} (h : RdP w B A l) (hb : Below B w w') : RdP w' B A l := by
  refine ⟨fun hl => ?_, fun m hm => (h.2 m hm).below hb⟩
  obtain ⟨b, off, hA, hlt, hc⟩ := h.1 hl
  refine ⟨b, off, hA, hlt, fun k m hm => ?_⟩
  obtain ⟨h0, h1, h2, h3, h4, h5⟩ := hc k m hm
  exact ⟨(hb.cell hlt).trans h0, (hb.cell hlt).trans h1, (hb.cell hlt).trans h2, (hb.cell hlt).trans h3, (hb.cell hlt).trans h4, (hb.cell hlt).trans h5⟩
theorem RdP.more {w : World} {B B' : Nat} {A : Option Addr} {l : List Pk} (h : RdP w B A l) (hb : B ≤ B') : RdP w B' A l := by
  refine ⟨fun hl => ?_, fun m hm => (h.2 m hm).more hb⟩
  obtain ⟨b, off, hA, hlt, hc⟩ := h.1 hl
  exact ⟨b, off, hA, by omega, hc⟩
theorem RdP.nil {w : World} {B : Nat} {A : Option Addr} : RdP w B A [] := ⟨fun h => absurd h (by simp), fun m hm => by simp at hm⟩
theorem RdP.at_ {w w' : World} {B : Nat} {A : Option Addr} {l : List Pk} (h : RdP w B A l) (hb : Below B w w') {k : Nat} (hk : k < l.length) :
    ∃ (b off : Nat) (m : Pk), A = some ⟨b, off, none⟩ ∧ b < B ∧ l[k]? = some m ∧ w'.cell? ⟨b, off + k * 6, none⟩ = some (.int .i64 m.seq) ∧ w'.cell? ⟨b, off + k * 6 + 1, none⟩ = some (.int .i64 m.time) ∧ w'.cell? ⟨b, off + k * 6 + 2, none⟩ = some (.int .i64 m.layer) ∧ w'.cell? ⟨b, off + k * 6 + 3, none⟩ = some (.int .i64 m.level) ∧ w'.cell? ⟨b, off + k * 6 + 4, none⟩ = some (.bool m.start) ∧ w'.cell? ⟨b, off + k * 6 + 5, none⟩ = some (.slice m.A m.n m.c) ∧ Bd w' B m := by
  obtain ⟨b, off, hA, hlt, hc⟩ := (h.below hb).1 (by omega)
  have hk' := List.getElem?_eq_getElem hk
  obtain ⟨h0, h1, h2, h3, h4, h5⟩ := hc k _ hk'
  exact ⟨b, off, l[k], hA, hlt, hk', h0, h1, h2, h3, h4, h5, (h.below hb).2 _ (List.mem_of_getElem? hk')⟩
theorem RdP.of_own {w : World} {base n c : Nat} {A : Option Addr} {l : List Pk} (h : w.ownsRow base 29 6 (.slice A n c) n (pcells l)) (hbd : ∀ m ∈ l, Bd w w.heap.size m) : RdP w w.heap.size A l := by
  refine ⟨fun hl => ?_, hbd⟩
  have hlen := h.1
  rw [pcells_length] at hlen
  rcases h.2 with ⟨_, h0⟩ | ⟨g, cap, cur, hv, _, hg, _, _, hcs, htake⟩
  · omega
  · cases hv
    refine ⟨g, 0, rfl, (Array.getElem?_eq_some_iff.1 hg).1, fun k m hm => ?_⟩
    obtain ⟨m0, m1, m2, m3, m4, m5⟩ := pcells_at l k m hm
    have hk := (List.getElem?_eq_some_iff.1 hm).1
    have key : ∀ j u, j < n * 6 → (pcells l)[j]? = some u → w.cell? ⟨g, 0 + j, none⟩ = some u := by
      intro j u hj hu
      rw [← htake, List.getElem?_take, if_pos hj] at hu
      simp only [World.cell?, hg]
      simpa using hu
    exact ⟨key _ _ (by omega) m0, by rw [Nat.add_assoc]; exact key _ _ (by omega) m1, by rw [Nat.add_assoc]; exact key _ _ (by omega) m2, by rw [Nat.add_assoc]; exact key _ _ (by omega) m3, by rw [Nat.add_assoc]; exact key _ _ (by omega) m4, by rw [Nat.add_assoc]; exact key _ _ (by omega) m5⟩

/-- what Check says -/
def badP (p : Pk) : Prop := p.seq < 0 ∨ 65535 < p.seq ∨ p.time < 0 ∨ 4294967295 < p.time ∨ p.layer < 0 ∨ 3 < p.layer ∨ p.level < 0 ∨ 127 < p.level
instance (p : Pk) : Decidable (badP p) := by unfold badP; infer_instance
def chkP (p : Pk) : Int := if badP p then 1 else if 1000 < p.n then 4 else 0
theorem chkP_bad {p : Pk} (h : badP p) : chkP p = 1 := if_pos h
theorem ret_errT {a b : Int} (h : b = a) : Ending.returned (errT a) = .returned (errT b) := by rw [h]

theorem Seq_yes (n : Int) (w : World) (h0 : 0 ≤ n) (h1 : n ≤ 65535) : Calls Tryd.prog 21 #[.int .i64 n] w fun e w' => e = .returned (.bool true) ∧ w = w' := by
  have h0' : decide (0 ≤ n) = true := by simpa using h0
  go_enter Tryd.func21, Tryd.ntmps21
  go_wp2
  go_ret
  exact ⟨by simp [h1], rfl⟩
theorem Seq_no (n : Int) (w : World) (h : n < 0 ∨ 65535 < n) : Calls Tryd.prog 21 #[.int .i64 n] w fun e w' => e = .returned (.bool false) ∧ w = w' := by
  by_cases h0 : 0 ≤ n
  · have h0' : decide (0 ≤ n) = true := by simpa using h0
    go_enter Tryd.func21, Tryd.ntmps21
    go_wp2
    go_ret
    exact ⟨by simp; omega, rfl⟩
  · have h0' : decide (0 ≤ n) = false := by simpa using h0
    go_enter Tryd.func21, Tryd.ntmps21
    go_wp2
    go_ret
    exact ⟨rfl, rfl⟩
end Go.Proofs.YtnndbnecgaelkaaDoor
