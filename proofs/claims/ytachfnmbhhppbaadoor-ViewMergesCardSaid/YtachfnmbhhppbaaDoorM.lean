/- Plain: views as lists. -/
import Derived.Test.YtachfnmbhhppbaaDoorRows
import Derived.Below
import Derived.Laws.OwnMore
import Derived.Deep.AppendLies
import Derived.Deep.Draws
import Derived.WalkKit
import Derived.Lib.Hide
namespace Go.Proofs.YtachfnmbhhppbaaDoor
set_option maxRecDepth 100000
open Go.RowKit

structure Mem where
  node : Int
  ver : Int
  up : Bool
deriving DecidableEq

def Mem.cells (m : Mem) : List Value := [.int .i64 m.node, .int .i64 m.ver, .bool m.up]
def Mem.val (m : Mem) : Value := .agg #[.int .i64 m.node, .int .i64 m.ver, .bool m.up]
def mcells : List Mem → List Value
  | [] => []
  | m :: r => .int .i64 m.node :: .int .i64 m.ver :: .bool m.up :: mcells r
theorem mcells_length (l : List Mem) : (mcells l).length = l.length * 3 := by
  induction l with
  | nil => rfl
  | cons m r ih => simp [mcells, ih]; omega
theorem mcells_at (l : List Mem) (k : Nat) (m : Mem) (h : l[k]? = some m) : (mcells l)[k * 3]? = some (.int .i64 m.node) ∧ (mcells l)[k * 3 + 1]? = some (.int .i64 m.ver) ∧ (mcells l)[k * 3 + 2]? = some (.bool m.up) := by
  induction l generalizing k with
  | nil => simp at h
  | cons a r ih =>
    cases k with
    | zero => simp at h; subst h; simp [mcells]
    | succ k =>
      have := ih k (by simpa using h)
      rw [show (k + 1) * 3 = k * 3 + 1 + 1 + 1 from by omega, show k * 3 + 1 + 1 + 1 + 1 = (k * 3 + 1) + 1 + 1 + 1 from by omega, show k * 3 + 1 + 1 + 1 + 2 = (k * 3 + 2) + 1 + 1 + 1 from by omega]
      simpa [mcells] using this

/-- error numbers as values -/
def errV (e : Int) : Value := if e = 0 then .nilIface else .iface 42 (.int .i64 e)

def chk1 (p : Option Int) (m : Mem) : Int :=
  if m.node < 0 ∨ 16 ≤ m.node ∨ m.ver < 1 ∨ 1000000 < m.ver then 1 else
  match p with
  | none => 0
  | some q => if m.node ≤ q then 3 else 0
def chkL : Option Int → List Mem → Int
  | _, [] => 0
  | p, m :: r => if chk1 p m = 0 then chkL (some m.node) r else chk1 p m
def viewErr (l : List Mem) : Int := if 16 < l.length then 4 else chkL none l

/-- A slice value's address reads as a list of members. -/
def Rd (w : World) (B : Nat) (A : Option Addr) (l : List Mem) : Prop :=
  0 < l.length → ∃ b off, A = some ⟨b, off, none⟩ ∧ b < B ∧ ∀ (k : Nat) (m : Mem), l[k]? = some m → w.cell? ⟨b, off + k * 3, none⟩ = some (.int .i64 m.node) ∧ w.cell? ⟨b, off + k * 3 + 1, none⟩ = some (.int .i64 m.ver) ∧ w.cell? ⟨b, off + k * 3 + 2, none⟩ = some (.bool m.up)

theorem Rd.below {w w' : World} {B : Nat} {A : Option Addr} {l : List Mem} (h : Rd w B A l) (hb : Below B w w') : Rd w' B A l := by
  intro hl
  obtain ⟨b, off, hA, hlt, hc⟩ := h hl
  refine ⟨b, off, hA, hlt, fun k m hm => ?_⟩
  obtain ⟨h1, h2, h3⟩ := hc k m hm
  exact ⟨(hb.cell hlt).trans h1, (hb.cell hlt).trans h2, (hb.cell hlt).trans h3⟩
theorem Rd.more {w : World} {B B' : Nat} {A : Option Addr} {l : List Mem} (h : Rd w B A l) (hb : B ≤ B') : Rd w B' A l := by
  intro hl
  obtain ⟨b, off, hA, hlt, hc⟩ := h hl
  exact ⟨b, off, hA, by omega, hc⟩
theorem Rd.nil {w : World} {B : Nat} {A : Option Addr} : Rd w B A [] := fun h => absurd h (by simp)
/-- one member's three cells, in a later world -/
theorem Rd.at_ {w w' : World} {B : Nat} {A : Option Addr} {l : List Mem} (h : Rd w B A l) (hb : Below B w w') {k : Nat} (hk : k < l.length) :
    ∃ (b off : Nat) (m : Mem), A = some ⟨b, off, none⟩ ∧ b < B ∧ l[k]? = some m ∧ w'.cell? ⟨b, off + k * 3, none⟩ = some (.int .i64 m.node) ∧ w'.cell? ⟨b, off + k * 3 + 1, none⟩ = some (.int .i64 m.ver) ∧ w'.cell? ⟨b, off + k * 3 + 2, none⟩ = some (.bool m.up) := by
  obtain ⟨b, off, hA, hlt, hc⟩ := (h.below hb) (by omega)
  exact ⟨b, off, l[k], hA, hlt, List.getElem?_eq_getElem hk, hc k _ (List.getElem?_eq_getElem hk)⟩
end Go.Proofs.YtachfnmbhhppbaaDoor
