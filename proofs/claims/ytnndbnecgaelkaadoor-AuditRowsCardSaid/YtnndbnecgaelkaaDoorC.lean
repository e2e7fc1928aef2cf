/- alike; the first hit of IndexFunc. -/
import Derived.Test.YtnndbnecgaelkaaDoorB
namespace Go.Proofs.YtnndbnecgaelkaaDoor
set_option maxRecDepth 100000
open Go.RowKit

theorem alike_yes (s1 t1 s2 t2 la le : Int) (st : Bool) (A1 A2 : Option Addr) (n c1 c2 : Nat) (l : List Int) (w : World) (hl : l.length = n) (h1 : RdB w w.heap.size A1 l) (h2 : RdB w w.heap.size A2 l) (hn : n ≤ 1000) :
    Calls Tryd.prog 34 #[.agg #[.int .i64 s1, .int .i64 t1, .int .i64 la, .int .i64 le, .bool st, .slice A1 n c1], .agg #[.int .i64 s2, .int .i64 t2, .int .i64 la, .int .i64 le, .bool st, .slice A2 n c2]] w fun e w' => e = .returned (.bool true) ∧ Below w.heap.size w w' := by
  have HL := Lib.hid hl; have H1 := Lib.hid h1; have H2 := Lib.hid h2; clear hl h1 h2
  have hst : (st == st) = true := by simp
  have hb : ∀ o1 o2, Below w.heap.size w ((w.alloc o1).alloc o2) := fun o1 o2 => ((Below.refl _ _).alloc (Nat.le_refl _) _).alloc (by simp) _
  have HB := Lib.hid hb; clear hb
  go_enter Tryd.func34, Tryd.ntmps34
  go_wp2_with fail
  refine (Equal_yes A1 A2 n c1 c2 l _ HL.out ((H1.out.below (HB.out _ _)).more (HB.out _ _).size) ((H2.out.below (HB.out _ _)).more (HB.out _ _).size) hn).mono ?_
  rintro e w1 ⟨rfl, hb1⟩
  have HB1 := Lib.hid ((HB.out _ _).trans (hb1.mono (HB.out _ _).size)); clear hb1
  go_wp2
  go_ret
  exact ⟨rfl, HB1.out⟩

theorem hit_yes (s1 t1 s2 t2 la le : Int) (st : Bool) (A1 A2 : Option Addr) (n c1 c2 : Nat) (l : List Int) (bp : Nat) (w : World) (hl : l.length = n) (h1 : RdB w w.heap.size A1 l) (h2 : RdB w w.heap.size A2 l) (hn : n ≤ 1000) (hbp : bp < w.heap.size)
    (k0 : w.cell? ⟨bp, 0, none⟩ = some (.int .i64 s2)) (k1 : w.cell? ⟨bp, 1, none⟩ = some (.int .i64 t2)) (k2 : w.cell? ⟨bp, 2, none⟩ = some (.int .i64 la)) (k3 : w.cell? ⟨bp, 3, none⟩ = some (.int .i64 le)) (k4 : w.cell? ⟨bp, 4, none⟩ = some (.bool st)) (k5 : w.cell? ⟨bp, 5, none⟩ = some (.slice A2 n c2)) :
    Calls Tryd.prog 33 #[.agg #[.int .i64 s1, .int .i64 t1, .int .i64 la, .int .i64 le, .bool st, .slice A1 n c1], .pointer (some ⟨bp, 0, none⟩)] w fun e w' => e = .returned (.bool true) ∧ Below w.heap.size w w' := by
  have HL := Lib.hid hl; have H1 := Lib.hid h1; have H2 := Lib.hid h2; clear hl h1 h2
  have hb : ∀ o1, Below w.heap.size w (w.alloc o1) := fun o1 => (Below.refl _ _).alloc (Nat.le_refl _) _
  have HB := Lib.hid hb; clear hb
  go_enter Tryd.func33, Tryd.ntmps33
  go_wp2_with fail
  refine (alike_yes _ _ _ _ _ _ _ A1 A2 n c1 c2 l _ HL.out ((H1.out.below (HB.out _)).more (HB.out _).size) ((H2.out.below (HB.out _)).more (HB.out _).size) hn).mono ?_
  rintro e w1 ⟨rfl, hb1⟩
  have HB1 := Lib.hid ((HB.out _).trans (hb1.mono (HB.out _).size)); clear hb1
  go_wp2
  go_ret
  exact ⟨rfl, HB1.out⟩

theorem index_hit (b off N C : Nat) (s1 t1 s2 t2 la le : Int) (st : Bool) (A1 A2 : Option Addr) (n c1 c2 : Nat) (l : List Int) (bp : Nat) (w : World) (hN : 0 < N) (hl : l.length = n) (h1 : RdB w w.heap.size A1 l) (h2 : RdB w w.heap.size A2 l) (hn : n ≤ 1000) (hbp : bp < w.heap.size)
    (j0 : w.cell? ⟨b, off, none⟩ = some (.int .i64 s1)) (j1 : w.cell? ⟨b, off + 1, none⟩ = some (.int .i64 t1)) (j2 : w.cell? ⟨b, off + 2, none⟩ = some (.int .i64 la)) (j3 : w.cell? ⟨b, off + 3, none⟩ = some (.int .i64 le)) (j4 : w.cell? ⟨b, off + 4, none⟩ = some (.bool st)) (j5 : w.cell? ⟨b, off + 5, none⟩ = some (.slice A1 n c1))
    (k0 : w.cell? ⟨bp, 0, none⟩ = some (.int .i64 s2)) (k1 : w.cell? ⟨bp, 1, none⟩ = some (.int .i64 t2)) (k2 : w.cell? ⟨bp, 2, none⟩ = some (.int .i64 la)) (k3 : w.cell? ⟨bp, 3, none⟩ = some (.int .i64 le)) (k4 : w.cell? ⟨bp, 4, none⟩ = some (.bool st)) (k5 : w.cell? ⟨bp, 5, none⟩ = some (.slice A2 n c2)) :
    Calls Tryd.prog 32 #[.slice (some ⟨b, off, none⟩) N C, .func (.func 33) #[] #[.pointer (some ⟨bp, 0, none⟩)]] w fun e w' => e = .returned (.int .i64 0) ∧ Below w.heap.size w w' := by
  have HH := Lib.hid (hit_yes s1 t1 s2 t2 la le st A1 A2 n c1 c2 l bp w hl h1 h2 hn hbp k0 k1 k2 k3 k4 k5)
  clear hl h1 h2 hn k0 k1 k2 k3 k4 k5
  go_enter Tryd.func32, Tryd.ntmps32
  go_wp2_with fail
  go_loopw [8] (fun i wr => i = .int .i64 0 ∧ wr = w) (fun _ _ => 0)
  case atStart => exact ⟨rfl, rfl⟩
  case round =>
    obtain ⟨rfl, rfl⟩ := hrel
    go_wp2_with (go_at_call 33; refine HH.out.mono ?_; rintro e w1 ⟨rfl, hb1⟩)
    go_ret
    exact ⟨rfl, hb1⟩
end Go.Proofs.YtnndbnecgaelkaaDoor
