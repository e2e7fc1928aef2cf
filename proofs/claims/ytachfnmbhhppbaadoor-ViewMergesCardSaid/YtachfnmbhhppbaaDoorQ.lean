/- A region that draws its order, whose operations only read and whose callees only read or lay new blocks: walked once. -/
import Derived.Deep.QuietTactic
import Derived.Below
import Derived.WalkKit
namespace Go.Proofs.YtachfnmbhhppbaaDoor
set_option maxRecDepth 100000
open Go.RowKit

/-- a world that came of w, all below B as it was -/
structure Aft (B : Nat) (w : World) where
  W : World
  h : Below B w W

instance (B : Nat) (w : World) : Nonempty (Aft B w) := ⟨⟨w, Below.refl B w⟩⟩

theorem wp_region_aft (B : Nat) {P : Program} {id : Nat} {Q : Exit → Act → World → Prop} {a : Act} {w : World} {l : List Oper} (hm : P.follows .mixedOrders = true) (hB : Region.lexB .any l.toArray = true)
    (h : wpQuiet P l.toArray (fun w' => ∃ p : Aft B w, w' = p.W) (fun a' => ∀ w', (∃ p : Aft B w, w' = p.W) → Q .normal a' w') l a) : (Code.region id l.toArray true).wp P Q a w :=
  wp_region_quiet (C := fun w' => ∃ p : Aft B w, w' = p.W) hm hB ⟨⟨w.drew, (Below.refl B w).drew⟩, rfl⟩ (by simpa using h)

theorem Aft.cell {B : Nat} {w : World} {a : Addr} {v : Value} (h : w.cell? a = some v) (hb : a.block < B) (p : Aft B w) : p.W.cell? a = some v := (p.h.cell hb).trans h
theorem Aft.calls {B : Nat} {w : World} {P : Program} {f : FuncId} {args : Array Value} {v : Value} (p : Aft B w)
    (h : Calls P f args p.W fun e w' => e = .returned v ∧ Below p.W.heap.size p.W w') (hB : B ≤ w.heap.size) : Calls P f args p.W fun e w'' => e = .returned v ∧ ∃ q : Aft B w, w'' = q.W :=
  h.mono fun _ w'' ⟨he, hb⟩ => ⟨he, ⟨w'', p.h.trans (hb.mono (Nat.le_trans hB p.h.size))⟩, rfl⟩
theorem Aft.calls_same {B : Nat} {w : World} {P : Program} {f : FuncId} {args : Array Value} {v : Value} (p : Aft B w)
    (h : Calls P f args p.W fun e w' => e = .returned v ∧ p.W = w') : Calls P f args p.W fun e w'' => e = .returned v ∧ ∃ q : Aft B w, w'' = q.W :=
  h.mono fun _ _ ⟨he, hb⟩ => ⟨he, p, hb.symm⟩
end Go.Proofs.YtachfnmbhhppbaaDoor
