/- Rows in memory: what is read, what is owned. -/
import Derived.Test.YtpaahhanjjjieaaRows
import Derived.Test.YtpaahhanjjjieaaBb
import Derived.Below
import Derived.WalkKit
import Derived.WalkSpells
import Derived.WalkLawsBesides
import Derived.Lib.Hide
import Derived.Lib.SliceRun
import Derived.BigQuiet
import Derived.Deep.QuietTactic
import Derived.Deep.RegionHeld3
import Derived.Deep.Draws
import Derived.Laws.AppendOwn
import Derived.Laws.OwnMore
import Derived.Laws.BitsLemmas
import Derived.Maps.AppendAt
import Derived.StillTailTactics
import Derived.OwnWalk
import Derived.Outline
namespace Go.Proofs.Ytpaahhanjjjieaa
set_option maxRecDepth 100000
open Go.RowKit

theorem grown_of_below {a b : World} {row : Option Nat} (h : Below a.heap.size a b) : a.grownBy b row := ⟨h.os, h.tape, h.output, h.size, fun k hk _ => h.block k hk⟩
theorem own_below {w w' : World} {base : Nat} {e : TypeId} {size : Nat} {v : Value} {n : Nat} {xs : List Value} (h : w.ownsRow base e size v n xs) (hb : Below w.heap.size w w') : w'.ownsRow base e size v n xs :=
  h.kept (row := none) (grown_of_below hb) (by cases hv : v.ownBlock <;> simp)
theorem own_slice {w : World} {base e size n : Nat} {v : Value} {xs : List Value} (h : w.ownsRow base e size v n xs) : ∃ A c, v = .slice A n c := by
  rcases h.2 with ⟨rfl, rfl⟩ | ⟨g, cap, cur, rfl, _⟩
  · exact ⟨none, 0, rfl⟩
  · exact ⟨_, cap, rfl⟩
theorem own_more {w : World} {base base' e size n : Nat} {v : Value} {xs : List Value} (h : w.ownsRow base e size v n xs) (hb : base' ≤ base) : w.ownsRow base' e size v n xs := by
  refine ⟨h.1, ?_⟩
  rcases h.2 with h | ⟨g, cap, cur, h1, h2, h3⟩
  · exact .inl h
  · exact .inr ⟨g, cap, cur, h1, Nat.le_trans hb h2, h3⟩
theorem le_alloc {w : World} {o : Obj} {n : Nat} (h : n ≤ w.heap.size) : n ≤ (w.alloc o).heap.size := by simp; omega
theorem one_new (w : World) (u : Value) (t : TypeId) (b : Nat) (hb : b = w.heap.size) : ∀ j v, [u][j]? = some v → (w.alloc (.cells #[u] t)).cell? ((⟨b, 0, none⟩ : Addr).add j) = some v := by
  intro j v hv
  rcases j with _ | j
  · simp at hv; subst hv hb; simp [Addr.add]
  · simp at hv
theorem two_new (w : World) (u v : Value) (t : TypeId) (b : Nat) (hb : b = w.heap.size) : ∀ j x, [u, v][j]? = some x → (w.alloc (.cells #[u, v] t)).cell? ((⟨b, 0, none⟩ : Addr).add j) = some x := by
  intro j x hx
  have e : (⟨b, 0, none⟩ : Addr).add j = ⟨b, j, none⟩ := by unfold Addr.add; split <;> simp_all
  rw [e, hb]
  rcases j with _ | _ | j <;> simp at hx <;> simp [hx]

/-- a row that is read -/
def RdC (w : World) (B : Nat) (A : Option Addr) (cs : List Value) : Prop :=
  0 < cs.length → ∃ b off, A = some ⟨b, off, none⟩ ∧ b < B ∧ ∀ (j : Nat) (u : Value), cs[j]? = some u → w.cell? ⟨b, off + j, none⟩ = some u
theorem RdC.below {w w' : World} {B : Nat} {A : Option Addr} {l : List Value} (h : RdC w B A l) (hb : Below B w w') : RdC w' B A l := by
  intro hl
  obtain ⟨b, off, hA, hlt, hc⟩ := h hl
  exact ⟨b, off, hA, hlt, fun k m hm => (hb.cell hlt).trans (hc k m hm)⟩
theorem RdC.more {w : World} {B B' : Nat} {A : Option Addr} {l : List Value} (h : RdC w B A l) (hb : B ≤ B') : RdC w B' A l := by
  intro hl
  obtain ⟨b, off, hA, hlt, hc⟩ := h hl
  exact ⟨b, off, hA, by omega, hc⟩
theorem RdC.later {w w' : World} {A : Option Addr} {l : List Value} (h : RdC w w.heap.size A l) (hb : Below w.heap.size w w') : RdC w' w'.heap.size A l := (h.below hb).more hb.size
theorem RdC.nil {w : World} {B : Nat} {A : Option Addr} : RdC w B A [] := fun h => absurd h (by simp)
theorem RdC.of_own {w : World} {base e size n c : Nat} {A : Option Addr} {l : List Value} (h : w.ownsRow base e size (.slice A n c) n l) : RdC w w.heap.size A l := by
  intro hl
  have hlen := h.1
  rcases h.2 with ⟨_, h0⟩ | ⟨g, cap, cur, hv, _, hg, _, _, hcs, htake⟩
  · subst h0; rw [hlen] at hl; simp at hl
  · cases hv
    refine ⟨g, 0, rfl, (Array.getElem?_eq_some_iff.1 hg).1, fun k m hm => ?_⟩
    have hk := (List.getElem?_eq_some_iff.1 hm).1
    rw [← htake, List.getElem?_take, if_pos (by omega)] at hm
    simp only [World.cell?, hg]
    simpa using hm

/-- ints -/
def icells (l : List Int) : List Value := l.map (Value.int .i64)
theorem icells_length (l : List Int) : (icells l).length = l.length := by simp [icells]
theorem icells_append (a b : List Int) : icells (a ++ b) = icells a ++ icells b := by simp [icells]
theorem one_icells (l : List Int) : ∀ u ∈ icells l, u.oneCell' = true := by
  intro u hu
  obtain ⟨x, _, rfl⟩ := List.mem_map.1 hu
  rfl
theorem RdC.int_at {w w' : World} {B : Nat} {A : Option Addr} {l : List Int} (h : RdC w B A (icells l)) (hb : Below B w w') {k : Nat} (hk : k < l.length) :
    ∃ (b off : Nat) (m : Int), A = some ⟨b, off, none⟩ ∧ b < B ∧ l[k]? = some m ∧ w'.cell? ⟨b, off + k, none⟩ = some (.int .i64 m) := by
  obtain ⟨b, off, hA, hlt, hc⟩ := (h.below hb) (by rw [icells_length]; omega)
  exact ⟨b, off, l[k], hA, hlt, List.getElem?_eq_getElem hk, hc k _ (by simp [icells, List.getElem?_eq_getElem hk])⟩
/-- a slice of ints that reads -/
def SlI (w : World) (v : Value) (l : List Int) : Prop := ∃ A c, v = .slice A l.length c ∧ RdC w w.heap.size A (icells l)
theorem SlI.below {w w' : World} {v : Value} {l : List Int} (h : SlI w v l) (hb : Below w.heap.size w w') : SlI w' v l := by
  obtain ⟨A, c, h1, h4⟩ := h
  exact ⟨A, c, h1, h4.later hb⟩
theorem SlI.nil (w : World) : SlI w (.slice none 0 0) [] := ⟨none, 0, rfl, RdC.nil⟩
theorem SlI.own {w : World} {base e n : Nat} {v : Value} {l : List Int} (h : w.ownsRow base e 1 v n (icells l)) : SlI w v l := by
  obtain ⟨A, c, hv⟩ := own_slice h
  have hlen := h.1
  rw [icells_length] at hlen
  obtain rfl : n = l.length := by omega
  subst hv
  exact ⟨A, c, rfl, RdC.of_own h⟩

/-- pairs -/
def qcells : List (Int × Int) → List Value
  | [] => []
  | p :: r => .int .i64 p.1 :: .int .i64 p.2 :: qcells r
theorem qcells_length (l : List (Int × Int)) : (qcells l).length = l.length * 2 := by
  induction l with
  | nil => rfl
  | cons p r ih => simp [qcells, ih]; omega
theorem qcells_append (a b : List (Int × Int)) : qcells (a ++ b) = qcells a ++ qcells b := by
  induction a with
  | nil => rfl
  | cons p r ih => simp [qcells, ih]
theorem one_qcells (l : List (Int × Int)) : ∀ u ∈ qcells l, u.oneCell' = true := by
  induction l with
  | nil => simp [qcells]
  | cons m r ih => intro u hu; simp only [qcells, List.mem_cons] at hu; rcases hu with rfl | rfl | hu <;> first | rfl | exact ih u hu
theorem qcells_at (l : List (Int × Int)) (k : Nat) (p : Int × Int) (h : l[k]? = some p) : (qcells l)[k * 2]? = some (.int .i64 p.1) ∧ (qcells l)[k * 2 + 1]? = some (.int .i64 p.2) := by
  induction l generalizing k with
  | nil => simp at h
  | cons a r ih =>
    cases k with
    | zero => simp at h; subst h; simp [qcells]
    | succ k =>
      have := ih k (by simpa using h)
      rw [show (k + 1) * 2 = k * 2 + 1 + 1 from by omega, show k * 2 + 1 + 1 + 1 = (k * 2 + 1) + 1 + 1 from by omega]
      simpa [qcells] using this
theorem RdC.pair_at {w w' : World} {B : Nat} {A : Option Addr} {l : List (Int × Int)} (h : RdC w B A (qcells l)) (hb : Below B w w') {k : Nat} (hk : k < l.length) :
    ∃ (b off : Nat) (p : Int × Int), A = some ⟨b, off, none⟩ ∧ b < B ∧ l[k]? = some p ∧ w'.cell? ⟨b, off + k * 2, none⟩ = some (.int .i64 p.1) ∧ w'.cell? ⟨b, off + k * 2 + 1, none⟩ = some (.int .i64 p.2) := by
  obtain ⟨b, off, hA, hlt, hc⟩ := (h.below hb) (by rw [qcells_length]; omega)
  have hk' := List.getElem?_eq_getElem hk
  obtain ⟨h1, h2⟩ := qcells_at l k _ hk'
  exact ⟨b, off, l[k], hA, hlt, hk', hc _ _ h1, by rw [Nat.add_assoc]; exact hc _ _ h2⟩
/-- a slice of pairs that reads -/
def SlQ (w : World) (v : Value) (l : List (Int × Int)) : Prop := ∃ A c, v = .slice A l.length c ∧ RdC w w.heap.size A (qcells l)
theorem SlQ.below {w w' : World} {v : Value} {l : List (Int × Int)} (h : SlQ w v l) (hb : Below w.heap.size w w') : SlQ w' v l := by
  obtain ⟨A, c, h1, h4⟩ := h
  exact ⟨A, c, h1, h4.later hb⟩
theorem SlQ.nil (w : World) : SlQ w (.slice none 0 0) [] := ⟨none, 0, rfl, RdC.nil⟩
theorem SlQ.own {w : World} {base e n : Nat} {v : Value} {l : List (Int × Int)} (h : w.ownsRow base e 2 v n (qcells l)) : SlQ w v l := by
  obtain ⟨A, c, hv⟩ := own_slice h
  have hlen := h.1
  rw [qcells_length] at hlen
  obtain rfl : n = l.length := by omega
  subst hv
  exact ⟨A, c, rfl, RdC.of_own h⟩

theorem infoI : (Try.prog.info? 3).map (fun i => (i.zero, i.size, i.bytes)) = some (some (.int .i64 0), 1, 8) := by kernel_rfl
theorem infoQ : (Try.prog.info? 36).map (fun i => (i.zero, i.size, i.bytes)) = some (some (.agg #[.int .i64 0, .int .i64 0]), 2, 16) := by kernel_rfl
end Go.Proofs.Ytpaahhanjjjieaa
