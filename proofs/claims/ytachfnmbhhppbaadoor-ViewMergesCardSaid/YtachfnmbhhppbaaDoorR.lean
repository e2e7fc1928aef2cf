/- Bump. -/
import Derived.Test.YtachfnmbhhppbaaDoorK
import Derived.Deep.RegionWith
namespace Go.Proofs.YtachfnmbhhppbaaDoor
set_option maxRecDepth 100000
open Go.RowKit

def verOf (a : List Mem) (nd : Int) : Int := match get a nd with | some x => x.ver + 1 | none => 1
def bumpM (a : List Mem) (nd : Int) (up : Bool) : Mem := ⟨nd, verOf a nd, up⟩

theorem Bump_bad (A : Option Addr) (n c : Nat) (a : List Mem) (nd : Int) (up : Bool) (w : World) (hl : a.length = n) (hr : Rd w w.heap.size A a) (hn : n ≤ 9223372036854775807) (h : viewErr a ≠ 0) :
    Calls Tryd.prog 14 #[.slice A n c, .int .i64 nd, .bool up] w fun e w' => e = .returned (.tuple #[.slice none 0 0, .iface 42 (.int .i64 (viewErr a))]) ∧ Below w.heap.size w w' := by
  have HL := Lib.hid hl; have HR := Lib.hid hr; have H := Lib.hid h
  clear hl hr h
  go_enter Tryd.func14, Tryd.ntmps14
  go_wp2_with fail
  refine (Check_bad A n c a _ HL.out HR.out hn H.out).mono ?_
  rintro e w1 ⟨rfl, hb1⟩
  go_wp2
  go_ret2
  exact ⟨rfl, hb1⟩
theorem Bump_range (A : Option Addr) (n c : Nat) (a : List Mem) (nd : Int) (up : Bool) (w : World) (hl : a.length = n) (hr : Rd w w.heap.size A a) (ha : Valid a) (h : ¬ (0 ≤ nd ∧ nd < 16)) :
    Calls Tryd.prog 14 #[.slice A n c, .int .i64 nd, .bool up] w fun e w' => e = .returned (.tuple #[.slice none 0 0, .iface 42 (.int .i64 1)]) ∧ Below w.heap.size w w' := by
  have hn : n ≤ 16 := by have := valid_length ha; omega
  have HL := Lib.hid hl; have HR := Lib.hid hr; have H := Lib.hid h; have HVa := Lib.hid ha
  clear hl hr h ha
  go_enter Tryd.func14, Tryd.ntmps14
  go_wp2_with fail
  refine (Check_ok A n c a _ HL.out HR.out (by omega) ((viewErr_zero a).2 HVa.out)).mono ?_
  rintro e w1 ⟨rfl, hb1⟩
  go_wp2_with (go_at_call 16; refine (node_no _ _ H.out).mono ?_; rintro e w' ⟨rfl, rfl⟩)
  go_ret2
  exact ⟨rfl, hb1⟩
theorem Bump_full (A : Option Addr) (n c : Nat) (a : List Mem) (nd : Int) (up : Bool) (w : World) (hl : a.length = n) (hr : Rd w w.heap.size A a) (ha : Valid a) (h0 : 0 ≤ nd) (h1 : nd < 16) (x : Mem) (hx : get a nd = some x) (hv : x.ver = 1000000) :
    Calls Tryd.prog 14 #[.slice A n c, .int .i64 nd, .bool up] w fun e w' => e = .returned (.tuple #[.slice none 0 0, .iface 42 (.int .i64 4)]) ∧ Below w.heap.size w w' := by
  have hn : n ≤ 16 := by have := valid_length ha; omega
  have hh : hasN a nd = true := by rw [hasN, List.any_eq_true]; exact ⟨x, get_mem hx, by simp [get_node hx]⟩
  obtain ⟨y, hy, hyn⟩ := hasN_pos a nd ha.1 hh
  have hxy : x = y := by
    have := get_of_mem ha.1 (List.mem_of_getElem? hy)
    rw [hyn, hx] at this; cases this; rfl
  rw [← hxy] at hy
  have hp := (List.getElem?_eq_some_iff.1 hy).1
  obtain ⟨p, hpe⟩ : ∃ p, p = posOf a nd := ⟨_, rfl⟩
  rw [← hpe] at hy hp
  have hpn : p < n := by omega
  have HL := Lib.hid hl; have HR := Lib.hid hr; have HVa := Lib.hid ha; have HH := Lib.hid hh; have HP := Lib.hid hpe; have HY := Lib.hid hy; have HV := Lib.hid hv
  clear hl hr ha hh hpe hy hv hxy hyn hx
  go_enter Tryd.func14, Tryd.ntmps14
  go_wp2_with fail
  refine (Check_ok A n c a _ HL.out HR.out (by omega) ((viewErr_zero a).2 HVa.out)).mono ?_
  rintro e w1 ⟨rfl, hb1⟩
  have HB1 := Lib.hid hb1; clear hb1
  go_wp2_with (go_at_call 16; refine (node_yes _ _ h0 h1).mono ?_; rintro e w' ⟨rfl, rfl⟩)
  obtain ⟨W2, hW2⟩ : ∃ W2, W2 = w1.alloc (.cells #[.int .i64 nd, .int .i64 1, .bool up] 30) := ⟨_, rfl⟩
  have hbW2 : Below w1.heap.size w1 W2 := by rw [hW2]; exact (Below.refl _ _).alloc (Nat.le_refl _) _
  have hsz2 : W2.heap.size = w1.heap.size + 1 := by rw [hW2]; simp
  have c1 : W2.cell? ⟨w1.heap.size, 0, none⟩ = some (.int .i64 nd) := by rw [hW2]; simp
  have c2 : W2.cell? ⟨w1.heap.size, 1, none⟩ = some (.int .i64 1) := by rw [hW2]; simp
  have c3 : W2.cell? ⟨w1.heap.size, 2, none⟩ = some (.bool up) := by rw [hW2]; simp
  have hf : ∀ o, W2.frozen? ⟨w1.heap.size, o, none⟩ = false := by intro o; rw [hW2]; exact World.frozen?_alloc_at (w := w1) _ _ w1.heap.size o rfl
  rw [← hW2]
  have HW2 := Lib.hid hbW2; have HS2 := Lib.hid hsz2; have HF := Lib.hid hf
  clear hW2 hbW2 hsz2 hf
  have HB2 : Hid (Below w.heap.size w W2) := Lib.hid (HB1.out.trans (HW2.out.mono HB1.out.size))
  refine (find_any A n c a nd W2 HL.out HVa.out.1 ((HR.out.below HB2.out).more (by have := HB1.out.size; have := HS2.out; omega)) (by omega)).mono ?_
  rintro e w3 ⟨rfl, hb3⟩
  have d1 := (hb3.cell (p := ⟨w1.heap.size, 0, none⟩) (by rw [HS2.out]; exact Nat.lt_succ_self _)).trans c1
  have d2 := (hb3.cell (p := ⟨w1.heap.size, 1, none⟩) (by rw [HS2.out]; exact Nat.lt_succ_self _)).trans c2
  have d3 := (hb3.cell (p := ⟨w1.heap.size, 2, none⟩) (by rw [HS2.out]; exact Nat.lt_succ_self _)).trans c3
  have f1 := (hb3.frozen (p := ⟨w1.heap.size, 1, none⟩) (by rw [HS2.out]; exact Nat.lt_succ_self _)).trans (HF.out 1)
  have hlt3 : w1.heap.size < w3.heap.size := by have := hb3.size; have := HS2.out; omega
  have HB3 : Hid (Below w.heap.size w w3) := Lib.hid (HB2.out.trans (hb3.mono (by have := HB1.out.size; have := HS2.out; omega)))
  clear c1 c2 c3 hb3
  rw [HH.out, ← HP.out]
  obtain ⟨bx, ox, x', hAx, hblx, hx', x1, x2, x3⟩ := HR.out.at_ HB3.out (k := p) hp
  rw [HY.out] at hx'
  cases hx'
  subst hAx
  rw [HV.out] at x2
  have hxb : bx ≠ w1.heap.size := by have := HB1.out.size; omega
  go_wp2
  go_ret2
  exact ⟨rfl, HB3.out.setCell (by have := HB1.out.size; simpa using this) _⟩

theorem clone_slice (A : Option Addr) (n c : Nat) (l : List Mem) (w : World) (hl : l.length = n) (hr : Rd w w.heap.size A l) (hA : A = none → n = 0 ∧ c = 0) (hn : n ≤ 1000) :
    Calls Tryd.prog 18 #[.slice A n c] w fun e w' => ∃ A' c', e = .returned (.slice A' n c') ∧ w'.ownsRow w.heap.size 30 3 (.slice A' n c') n (mcells l) ∧ Below w.heap.size w w' :=
  (clone_any A n c l w hl hr hA hn).mono fun e w' ⟨v, h1, h2, h3⟩ => by
    obtain ⟨A', c', hv⟩ := own_slice h2
    rw [hv] at h1 h2
    exact ⟨A', c', h1, h2, h3⟩

theorem Bump_new (A : Option Addr) (n c : Nat) (a : List Mem) (nd : Int) (up : Bool) (w : World) (hl : a.length = n) (hr : Rd w w.heap.size A a) (hA : A = none → n = 0 ∧ c = 0) (ha : Valid a) (h0 : 0 ≤ nd) (h1 : nd < 16) (hx : get a nd = none) :
    Calls Tryd.prog 14 #[.slice A n c, .int .i64 nd, .bool up] w fun e w' => ∃ v, e = .returned (.tuple #[v, .nilIface]) ∧ w'.ownsRow w.heap.size 30 3 v (putL a (bumpM a nd up)).length (mcells (putL a (bumpM a nd up))) ∧ Below w.heap.size w w' := by
  have hn : n ≤ 16 := by have := valid_length ha; omega
  have hh : hasN a nd = false := by
    cases hq : hasN a nd with
    | false => rfl
    | true => obtain ⟨y, hy, hyn⟩ := hasN_pos a nd ha.1 hq; have := get_of_mem ha.1 (List.mem_of_getElem? hy); rw [hyn, hx] at this; cases this
  have hm : bumpM a nd up = ⟨nd, 1, up⟩ := by rw [bumpM, verOf, hx]
  rw [hm]
  have HL := Lib.hid hl; have HR := Lib.hid hr; have HVa := Lib.hid ha; have HH := Lib.hid hh; have HA := Lib.hid hA
  clear hl hr ha hh hx hm hA
  go_enter Tryd.func14, Tryd.ntmps14
  go_wp2_with fail
  refine (Check_ok A n c a _ HL.out HR.out (by omega) ((viewErr_zero a).2 HVa.out)).mono ?_
  rintro e w1 ⟨rfl, hb1⟩
  have HB1 := Lib.hid hb1; clear hb1
  go_wp2_with (go_at_call 16; refine (node_yes _ _ h0 h1).mono ?_; rintro e w' ⟨rfl, rfl⟩)
  obtain ⟨W2, hW2⟩ : ∃ W2, W2 = w1.alloc (.cells #[.int .i64 nd, .int .i64 1, .bool up] 30) := ⟨_, rfl⟩
  have hbW2 : Below w1.heap.size w1 W2 := by rw [hW2]; exact (Below.refl _ _).alloc (Nat.le_refl _) _
  have hsz2 : W2.heap.size = w1.heap.size + 1 := by rw [hW2]; simp
  have c1 : W2.cell? ⟨w1.heap.size, 0, none⟩ = some (.int .i64 nd) := by rw [hW2]; simp
  have c2 : W2.cell? ⟨w1.heap.size, 1, none⟩ = some (.int .i64 1) := by rw [hW2]; simp
  have c3 : W2.cell? ⟨w1.heap.size, 2, none⟩ = some (.bool up) := by rw [hW2]; simp
  have hf : ∀ o, W2.frozen? ⟨w1.heap.size, o, none⟩ = false := by intro o; rw [hW2]; exact World.frozen?_alloc_at (w := w1) _ _ w1.heap.size o rfl
  rw [← hW2]
  have HW2 := Lib.hid hbW2; have HS2 := Lib.hid hsz2; have HF := Lib.hid hf
  clear hW2 hbW2 hsz2 hf
  have HB2 : Hid (Below w.heap.size w W2) := Lib.hid (HB1.out.trans (HW2.out.mono HB1.out.size))
  refine (find_any A n c a nd W2 HL.out HVa.out.1 ((HR.out.below HB2.out).more (by have := HB1.out.size; have := HS2.out; omega)) (by omega)).mono ?_
  rintro e w3 ⟨rfl, hb3⟩
  have d1 := (hb3.cell (p := ⟨w1.heap.size, 0, none⟩) (by rw [HS2.out]; exact Nat.lt_succ_self _)).trans c1
  have d2 := (hb3.cell (p := ⟨w1.heap.size, 1, none⟩) (by rw [HS2.out]; exact Nat.lt_succ_self _)).trans c2
  have d3 := (hb3.cell (p := ⟨w1.heap.size, 2, none⟩) (by rw [HS2.out]; exact Nat.lt_succ_self _)).trans c3
  have f1 := (hb3.frozen (p := ⟨w1.heap.size, 1, none⟩) (by rw [HS2.out]; exact Nat.lt_succ_self _)).trans (HF.out 1)
  have hlt3 : w1.heap.size < w3.heap.size := by have := hb3.size; have := HS2.out; omega
  have HB3 : Hid (Below w.heap.size w w3) := Lib.hid (HB2.out.trans (hb3.mono (by have := HB1.out.size; have := HS2.out; omega)))
  clear c1 c2 c3 hb3
  rw [HH.out]
  go_wp2_with fail
  have HRd : Hid (Rd w3 w3.heap.size A a) := Lib.hid ((HR.out.below HB3.out).more HB3.out.size)
  have HZ3 := Lib.hid HB3.out.size
  go_region_with (first | (go_at_call 18; refine (clone_slice A n c a _ HL.out (by exact HRd.out) HA.out (by omega)).mono ?_; rintro e w5 ⟨A5, c5, rfl, hown5, hb5⟩; have k1 := (hb5.cell (p := ⟨w1.heap.size, 0, none⟩) hlt3).trans d1; have k2 := (hb5.cell (p := ⟨w1.heap.size, 1, none⟩) hlt3).trans d2; have k3 := (hb5.cell (p := ⟨w1.heap.size, 2, none⟩) hlt3).trans d3; have HO5 := Lib.hid hown5; have HB5 := Lib.hid hb5; clear hown5 hb5) | (go_at_call 19; refine (put_any w.heap.size n A5 c5 a ⟨nd, 1, up⟩ _ HVa.out.1 (by exact own_more HO5.out HZ3.out) (by omega) (by exact Nat.le_trans HZ3.out HB5.out.size)).mono ?_; rintro e w6 ⟨v, rfl, hown6, hgr6⟩; have HO6 := Lib.hid hown6; have HG6 := Lib.hid hgr6; clear hown6 hgr6))
  all_goals
    go_wp2
    go_ret2
    exact ⟨v, rfl, HO6.out, ((show Below w.heap.size w w3.drew from HB3.out.drew).trans (HB5.out.mono HZ3.out)).grown HG6.out (Nat.le_trans HZ3.out HB5.out.size) (fun j hj => Nat.le_trans HZ3.out (HO5.out.lt j hj).1)⟩

theorem Bump_set (A : Option Addr) (n c : Nat) (a : List Mem) (nd : Int) (up : Bool) (w : World) (hl : a.length = n) (hr : Rd w w.heap.size A a) (hA : A = none → n = 0 ∧ c = 0) (ha : Valid a) (h0 : 0 ≤ nd) (h1 : nd < 16) (x : Mem) (hx : get a nd = some x) (hv : x.ver < 1000000) (hv0 : 1 ≤ x.ver) :
    Calls Tryd.prog 14 #[.slice A n c, .int .i64 nd, .bool up] w fun e w' => ∃ v, e = .returned (.tuple #[v, .nilIface]) ∧ w'.ownsRow w.heap.size 30 3 v (putL a (bumpM a nd up)).length (mcells (putL a (bumpM a nd up))) ∧ Below w.heap.size w w' := by
  have hn : n ≤ 16 := by have := valid_length ha; omega
  have hm : bumpM a nd up = ⟨nd, x.ver + 1, up⟩ := by rw [bumpM, verOf, hx]
  rw [hm]
  have hh : hasN a nd = true := by rw [hasN, List.any_eq_true]; exact ⟨x, get_mem hx, by simp [get_node hx]⟩
  obtain ⟨y, hy, hyn⟩ := hasN_pos a nd ha.1 hh
  have hxy : x = y := by
    have := get_of_mem ha.1 (List.mem_of_getElem? hy)
    rw [hyn, hx] at this; cases this; rfl
  rw [← hxy] at hy
  have hp := (List.getElem?_eq_some_iff.1 hy).1
  obtain ⟨p, hpe⟩ : ∃ p, p = posOf a nd := ⟨_, rfl⟩
  rw [← hpe] at hy hp
  have hpn : p < n := by omega
  have HL := Lib.hid hl; have HR := Lib.hid hr; have HVa := Lib.hid ha; have HH := Lib.hid hh; have HP := Lib.hid hpe; have HY := Lib.hid hy; have HA := Lib.hid hA
  clear hl hr ha hh hpe hy hxy hyn hx hm hA
  go_enter Tryd.func14, Tryd.ntmps14
  go_wp2_with fail
  refine (Check_ok A n c a _ HL.out HR.out (by omega) ((viewErr_zero a).2 HVa.out)).mono ?_
  rintro e w1 ⟨rfl, hb1⟩
  have HB1 := Lib.hid hb1; clear hb1
  go_wp2_with (go_at_call 16; refine (node_yes _ _ h0 h1).mono ?_; rintro e w' ⟨rfl, rfl⟩)
  obtain ⟨W2, hW2⟩ : ∃ W2, W2 = w1.alloc (.cells #[.int .i64 nd, .int .i64 1, .bool up] 30) := ⟨_, rfl⟩
  have hbW2 : Below w1.heap.size w1 W2 := by rw [hW2]; exact (Below.refl _ _).alloc (Nat.le_refl _) _
  have hsz2 : W2.heap.size = w1.heap.size + 1 := by rw [hW2]; simp
  have c1 : W2.cell? ⟨w1.heap.size, 0, none⟩ = some (.int .i64 nd) := by rw [hW2]; simp
  have c2 : W2.cell? ⟨w1.heap.size, 1, none⟩ = some (.int .i64 1) := by rw [hW2]; simp
  have c3 : W2.cell? ⟨w1.heap.size, 2, none⟩ = some (.bool up) := by rw [hW2]; simp
  have hf : ∀ o, W2.frozen? ⟨w1.heap.size, o, none⟩ = false := by intro o; rw [hW2]; exact World.frozen?_alloc_at (w := w1) _ _ w1.heap.size o rfl
  rw [← hW2]
  have HW2 := Lib.hid hbW2; have HS2 := Lib.hid hsz2; have HF := Lib.hid hf
  clear hW2 hbW2 hsz2 hf
  have HB2 : Hid (Below w.heap.size w W2) := Lib.hid (HB1.out.trans (HW2.out.mono HB1.out.size))
  refine (find_any A n c a nd W2 HL.out HVa.out.1 ((HR.out.below HB2.out).more (by have := HB1.out.size; have := HS2.out; omega)) (by omega)).mono ?_
  rintro e w3 ⟨rfl, hb3⟩
  have d1 := (hb3.cell (p := ⟨w1.heap.size, 0, none⟩) (by rw [HS2.out]; exact Nat.lt_succ_self _)).trans c1
  have d2 := (hb3.cell (p := ⟨w1.heap.size, 1, none⟩) (by rw [HS2.out]; exact Nat.lt_succ_self _)).trans c2
  have d3 := (hb3.cell (p := ⟨w1.heap.size, 2, none⟩) (by rw [HS2.out]; exact Nat.lt_succ_self _)).trans c3
  have f1 := (hb3.frozen (p := ⟨w1.heap.size, 1, none⟩) (by rw [HS2.out]; exact Nat.lt_succ_self _)).trans (HF.out 1)
  have hlt3 : w1.heap.size < w3.heap.size := by have := hb3.size; have := HS2.out; omega
  have HB3 : Hid (Below w.heap.size w w3) := Lib.hid (HB2.out.trans (hb3.mono (by have := HB1.out.size; have := HS2.out; omega)))
  clear c1 c2 c3 hb3
  rw [HH.out, ← HP.out]
  obtain ⟨bx, ox, x', hAx, hblx, hx', x1, x2, x3⟩ := HR.out.at_ HB3.out (k := p) hp
  rw [HY.out] at hx'
  cases hx'
  subst hAx
  have hxb : bx ≠ w1.heap.size := by have := HB1.out.size; omega
  have HB4a : Hid (Below w.heap.size w (w3.setCell ⟨w1.heap.size, 1, none⟩ (.int .i64 (x.ver + 1)))) := Lib.hid (HB3.out.setCell (by have := HB1.out.size; simpa using this) _)
  obtain ⟨w4, hw4⟩ : ∃ w4, w4 = w3.setCell ⟨w1.heap.size, 1, none⟩ (.int .i64 (x.ver + 1)) := ⟨_, rfl⟩
  have q1 : w4.cell? ⟨w1.heap.size, 0, none⟩ = some (.int .i64 nd) := by rw [hw4, World.cell?_setCell_other _ _ _ _ (by simp)]; exact d1
  have q2 : w4.cell? ⟨w1.heap.size, 1, none⟩ = some (.int .i64 (x.ver + 1)) := by rw [hw4]; exact World.cell?_setCell_same _ _ _ d2
  have q3 : w4.cell? ⟨w1.heap.size, 2, none⟩ = some (.bool up) := by rw [hw4, World.cell?_setCell_other _ _ _ _ (by simp)]; exact d3
  have hlt4 : w1.heap.size < w4.heap.size := by rw [hw4]; simpa [World.setCell] using hlt3
  have HB4 : Hid (Below w.heap.size w w4) := Lib.hid (by rw [hw4]; exact HB4a.out)
  have HW4 := Lib.hid hw4
  clear hw4
  go_wp2_with fail
  rw [← HW4.out]
  have HRd : Hid (Rd w4 w4.heap.size (some ⟨bx, ox, none⟩) a) := Lib.hid ((HR.out.below HB4.out).more HB4.out.size)
  have HZ4 := Lib.hid HB4.out.size
  go_region_with (first | (go_at_call 18; refine (clone_slice (some ⟨bx, ox, none⟩) n c a _ HL.out (by exact HRd.out) HA.out (by omega)).mono ?_; rintro e w5 ⟨A5, c5, rfl, hown5, hb5⟩; have k1 := (hb5.cell (p := ⟨w1.heap.size, 0, none⟩) hlt4).trans q1; have k2 := (hb5.cell (p := ⟨w1.heap.size, 1, none⟩) hlt4).trans q2; have k3 := (hb5.cell (p := ⟨w1.heap.size, 2, none⟩) hlt4).trans q3; have HO5 := Lib.hid hown5; have HB5 := Lib.hid hb5; clear hown5 hb5) | (go_at_call 19; refine (put_any w.heap.size n A5 c5 a ⟨nd, x.ver + 1, up⟩ _ HVa.out.1 (by exact own_more HO5.out HZ4.out) (by omega) (by exact Nat.le_trans HZ4.out HB5.out.size)).mono ?_; rintro e w6 ⟨v, rfl, hown6, hgr6⟩; have HO6 := Lib.hid hown6; have HG6 := Lib.hid hgr6; clear hown6 hgr6))
  all_goals
    go_wp2
    go_ret2
    exact ⟨v, rfl, HO6.out, ((show Below w.heap.size w w4.drew from HB4.out.drew).trans (HB5.out.mono HZ4.out)).grown HG6.out (Nat.le_trans HZ4.out HB5.out.size) (fun j hj => Nat.le_trans HZ4.out (HO5.out.lt j hj).1)⟩
end Go.Proofs.YtachfnmbhhppbaaDoor
