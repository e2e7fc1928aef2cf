/- The references: Merge. -/
import Derived.Test.YtachfnmbhhppbaaDoorO
namespace Go.Proofs.YtachfnmbhhppbaaDoor
set_option maxRecDepth 100000
open Go.RowKit

theorem Member_any (A : Option Addr) (n c : Nat) (l : List Mem) (t : Int) (w : World) (hl : l.length = n) (hr : Rd w w.heap.size A l) (hn : n ≤ 1000) (x : Mem) (p : Bool) (hx : x = getZ l t) (hp : p = (get l t).isSome) :
    Calls Tryd.prog 8 #[.slice A n c, .int .i64 t] w fun e w' => e = .returned (.tuple #[.agg #[.int .i64 x.node, .int .i64 x.ver, .bool x.up], .bool p]) ∧ Below w.heap.size w w' := by
  cases hg : get l t with
  | none => rw [hg] at hp; rw [getZ, hg] at hx; subst hx hp; exact Member_none A n c l t w hl hr hn hg
  | some m => rw [hg] at hp; rw [getZ, hg] at hx; simp only [Option.getD_some, Option.isSome_some] at hx hp; subst hx hp; exact Member_some A n c l t _ w hl hr hn hg

theorem RL_ff (a b : List Mem) (k : Nat) (hp : (get a k).isSome = false) (hq : (get b k).isSome = false) : RL a b (k + 1) = RL a b k := by
  rw [RL]; simp only [Option.isSome_eq_false_iff, Option.isNone_iff_eq_none] at hp hq; rw [hp, hq]; simp [join, opt1]
theorem RL_tf (a b : List Mem) (k : Nat) (hp : (get a k).isSome = true) (hq : (get b k).isSome = false) : RL a b (k + 1) = RL a b k ++ [getZ a k] := by
  obtain ⟨x, hx⟩ := Option.isSome_iff_exists.1 hp
  rw [RL]; simp only [Option.isSome_eq_false_iff, Option.isNone_iff_eq_none] at hq; rw [hx, hq, getZ, hx]; simp [join, opt1]
theorem RL_ft (a b : List Mem) (k : Nat) (hp : (get a k).isSome = false) (hq : (get b k).isSome = true) : RL a b (k + 1) = RL a b k ++ [getZ b k] := by
  obtain ⟨x, hx⟩ := Option.isSome_iff_exists.1 hq
  rw [RL]; simp only [Option.isSome_eq_false_iff, Option.isNone_iff_eq_none] at hp; rw [hx, hp, getZ, hx]; simp [join, opt1]
theorem RL_tt (a b : List Mem) (k : Nat) (hp : (get a k).isSome = true) (hq : (get b k).isSome = true) : RL a b (k + 1) = RL a b k ++ [pick (getZ a k) (getZ b k)] := by
  obtain ⟨x, hx⟩ := Option.isSome_iff_exists.1 hp
  obtain ⟨y, hy⟩ := Option.isSome_iff_exists.1 hq
  rw [RL, hx, hy, getZ, getZ, hx, hy]; simp [join, opt1]

theorem le_alloc {w : World} {o : Obj} {n : Nat} (h : n ≤ w.heap.size) : n ≤ (w.alloc o).heap.size := by simp; omega
theorem getZ_node {a : List Mem} {k : Int} (h : (get a k).isSome = true) : (getZ a k).node = k := by
  obtain ⟨x, hx⟩ := Option.isSome_iff_exists.1 h
  rw [getZ, hx]; exact get_node hx
theorem RL_tty (a b : List Mem) (k : Nat) (hp : (get a k).isSome = true) (hq : (get b k).isSome = true) (h : (getZ a k).ver < (getZ b k).ver ∨ ((getZ b k).ver = (getZ a k).ver ∧ (getZ b k).up = false)) : RL a b (k + 1) = RL a b k ++ [getZ b k] := by
  rw [RL_tt a b k hp hq, pick]
  by_cases hl : laterB (getZ b k) (getZ a k) = true
  · rw [if_pos hl]
  · rw [if_neg hl]
    have h1 := getZ_node hp
    have h2 := getZ_node hq
    generalize getZ a k = x at *
    generalize getZ b k = y at *
    obtain ⟨xn, xv, xu⟩ := x
    obtain ⟨yn, yv, yu⟩ := y
    simp only [laterB] at h h1 h2 hl
    rcases h with h | ⟨h, h'⟩
    · simp [h] at hl
    · subst h' h; simp at hl; subst hl h1 h2; rfl
theorem RL_ttx (a b : List Mem) (k : Nat) (hp : (get a k).isSome = true) (hq : (get b k).isSome = true) (h0 : ¬ (getZ a k).ver < (getZ b k).ver) (h : (getZ b k).ver = (getZ a k).ver → (getZ b k).up = true) : RL a b (k + 1) = RL a b k ++ [getZ a k] := by
  rw [RL_tt a b k hp hq, pick, if_neg]
  simp only [laterB]
  by_cases he : (getZ b k).ver = (getZ a k).ver
  · simp [h0, h he]
  · simp [h0, he]

set_option maxHeartbeats 2000000 in
theorem RMerge_any (A B : Option Addr) (n c n' c' : Nat) (a b : List Mem) (w : World) (hl : a.length = n) (hl' : b.length = n') (hr : Rd w w.heap.size A a) (hr' : Rd w w.heap.size B b) (hn : n ≤ 1000) (hn' : n' ≤ 1000) :
    Calls Tryd.prog 7 #[.slice A n c, .slice B n' c'] w fun e w' => ∃ v, e = .returned v ∧ w'.ownsRow w.heap.size 30 3 v (RL a b 16).length (mcells (RL a b 16)) ∧ Below w.heap.size w w' := by
  obtain ⟨i0, hi, hz0, hz1, hz2⟩ := info_parts info28
  have HL := Lib.hid hl; have HL' := Lib.hid hl'; have HR := Lib.hid hr; have HR' := Lib.hid hr'
  clear hl hl' hr hr'
  go_enter Tryd.func7, Tryd.ntmps7
  go_wp2
  go_loopw [5, 6] (fun o i wr => ∃ (k cc : Nat) (A' : Option Addr), k ≤ 16 ∧ i = .int .i64 k ∧ o = .slice A' (RL a b k).length cc ∧ wr.ownsRow w.heap.size 30 3 (.slice A' (RL a b k).length cc) (RL a b k).length (mcells (RL a b k)) ∧ Below w.heap.size w wr) (fun _ i _ => 16 - (intOf i).toNat)
  case atStart => exact ⟨0, 0, none, by omega, rfl, rfl, World.ownsRow_nil _ _ _ _, Below.refl _ _⟩
  case round =>
    obtain ⟨k, cc, A', hk, rfl, rfl, hown, hb⟩ := hrel
    have hlt' := hown.lt
    have HOw := Lib.hid hown; have HLt := Lib.hid hlt'; have HB := Lib.hid hb; clear hown hlt' hb
    have HLe := Lib.hid (RL_length a b k)
    by_cases hlt : k < 16
    · obtain ⟨x, hx⟩ : ∃ x, x = getZ a k := ⟨_, rfl⟩
      obtain ⟨p, hp⟩ : ∃ p, p = (get a k).isSome := ⟨_, rfl⟩
      obtain ⟨y, hy⟩ : ∃ y, y = getZ b k := ⟨_, rfl⟩
      obtain ⟨q, hq⟩ : ∃ q, q = (get b k).isSome := ⟨_, rfl⟩
      have HX := Lib.hid hx; have HP := Lib.hid hp; have HY := Lib.hid hy; have HQ := Lib.hid hq; clear hx hp hy hq
      go_wp2_with fail
      refine (Member_any A n c a k _ HL.out ((HR.out.below HB.out).more HB.out.size) hn x p HX.out HP.out).mono ?_
      rintro e w1 ⟨he1, hb1⟩
      obtain ⟨vp, hvp⟩ : ∃ vp, vp = Value.bool p := ⟨_, rfl⟩
      rw [← hvp] at he1; subst he1
      have HVp := Lib.hid hvp; clear hvp
      obtain ⟨w2, hw2⟩ : ∃ w2, w2 = w1.alloc (.cells #[.int .i64 x.node, .int .i64 x.ver, .bool x.up] 30) := ⟨_, rfl⟩
      have hb2 : Below w1.heap.size w1 w2 := by rw [hw2]; exact (Below.refl _ _).alloc (Nat.le_refl _) _
      have hz2' : w2.heap.size = w1.heap.size + 1 := by rw [hw2]; simp
      have a0 : w2.cell? ⟨w1.heap.size, 0, none⟩ = some (.int .i64 x.node) := by rw [hw2]; simp
      have a1 : w2.cell? ⟨w1.heap.size, 1, none⟩ = some (.int .i64 x.ver) := by rw [hw2]; simp
      have a2 : w2.cell? ⟨w1.heap.size, 2, none⟩ = some (.bool x.up) := by rw [hw2]; simp
      have af : ∀ o, w2.frozen? ⟨w1.heap.size, o, none⟩ = false := by intro o; rw [hw2]; exact World.frozen?_alloc_at (w := w1) _ _ w1.heap.size o rfl
      have HW2 := Lib.hid hw2; have HB2 := Lib.hid (hb1.trans (hb2.mono hb1.size)); have HZ2 := Lib.hid hz2'; have AF := Lib.hid af; have HS1 := Lib.hid hb1.size; clear hw2 hb2 hz2' af hb1
      go_wp2_with fail
      rw [← HW2.out]
      refine (Member_any B n' c' b k _ HL'.out ((HR'.out.below (HB.out.trans (HB2.out.mono HB.out.size))).more (by have := HB.out.size; have := HS1.out; have := HZ2.out; omega)) hn' y q HY.out HQ.out).mono ?_
      rintro e w3 ⟨rfl, hb3⟩
      obtain ⟨w4, hw4⟩ : ∃ w4, w4 = w3.alloc (.cells #[.int .i64 y.node, .int .i64 y.ver, .bool y.up] 30) := ⟨_, rfl⟩
      have hb4 : Below w3.heap.size w3 w4 := by rw [hw4]; exact (Below.refl _ _).alloc (Nat.le_refl _) _
      have hz4 : w4.heap.size = w3.heap.size + 1 := by rw [hw4]; simp
      have hlt13 : w1.heap.size < w3.heap.size := by have := hb3.size; have := HZ2.out; omega
      have hb34 : Below w2.heap.size w2 w4 := hb3.trans (hb4.mono hb3.size)
      have b0 := (hb34.cell (p := ⟨w1.heap.size, 0, none⟩) (by rw [HZ2.out]; exact Nat.lt_succ_self _)).trans a0
      have y0 : w4.cell? ⟨w3.heap.size, 0, none⟩ = some (.int .i64 y.node) := by rw [hw4]; simp
      have f0 := (hb34.frozen (p := ⟨w1.heap.size, 0, none⟩) (by rw [HZ2.out]; exact Nat.lt_succ_self _)).trans (AF.out 0)
      have b1 := (hb34.cell (p := ⟨w1.heap.size, 1, none⟩) (by rw [HZ2.out]; exact Nat.lt_succ_self _)).trans a1
      have y1 : w4.cell? ⟨w3.heap.size, 1, none⟩ = some (.int .i64 y.ver) := by rw [hw4]; simp
      have f1 := (hb34.frozen (p := ⟨w1.heap.size, 1, none⟩) (by rw [HZ2.out]; exact Nat.lt_succ_self _)).trans (AF.out 1)
      have b2 := (hb34.cell (p := ⟨w1.heap.size, 2, none⟩) (by rw [HZ2.out]; exact Nat.lt_succ_self _)).trans a2
      have y2 : w4.cell? ⟨w3.heap.size, 2, none⟩ = some (.bool y.up) := by rw [hw4]; simp
      have f2 := (hb34.frozen (p := ⟨w1.heap.size, 2, none⟩) (by rw [HZ2.out]; exact Nat.lt_succ_self _)).trans (AF.out 2)
      have hne13 : ¬ w3.heap.size = w1.heap.size := by omega
      have hne31 : ¬ w1.heap.size = w3.heap.size := by omega
      have HW4 := Lib.hid hw4; have HZ4 := Lib.hid hz4; have HB4 := Lib.hid (HB2.out.trans (hb34.mono (by have := HS1.out; have := HZ2.out; omega))); clear hw4 hz4 hb4 hb34 hb3 a0 a1 a2
      go_wp2_with fail
      rw [← HW4.out, HVp.out]
      cases p with
      | false =>
        cases q with
        | false =>
          simp [go_sem]
          go_wp2
          go_roundw
          case rel => exact ⟨k + 1, cc, A', by omega, by go_num, by rw [RL_ff a b k HP.out.symm HQ.out.symm], by rw [RL_ff a b k HP.out.symm HQ.out.symm]; exact own_below HOw.out HB4.out, HB.out.trans (HB4.out.mono HB.out.size)⟩
          case measure => simp [intOf]; omega
        | true =>
          simp [go_sem]
          have H5 := Lib.hid (RL_ft a b k HP.out.symm HQ.out.symm)
          rw [← HY.out] at H5
          have HSZ : Hid (((((w4.setCell ⟨w1.heap.size, 0, none⟩ (.int .i64 y.node)).setCell ⟨w1.heap.size, 1, none⟩ (.int .i64 y.ver)).setCell ⟨w1.heap.size, 2, none⟩ (.bool y.up))).heap.size = w4.heap.size) := Lib.hid (by simp)
          have HB5 : Hid (Below wr.heap.size wr (((w4.setCell ⟨w1.heap.size, 0, none⟩ (.int .i64 y.node)).setCell ⟨w1.heap.size, 1, none⟩ (.int .i64 y.ver)).setCell ⟨w1.heap.size, 2, none⟩ (.bool y.up))) := Lib.hid (((HB4.out.setCell HS1.out _).setCell HS1.out _).setCell HS1.out _)
          have HO5 : Hid ((((((w4.setCell ⟨w1.heap.size, 0, none⟩ (.int .i64 y.node)).setCell ⟨w1.heap.size, 1, none⟩ (.int .i64 y.ver)).setCell ⟨w1.heap.size, 2, none⟩ (.bool y.up))).alloc (mblk y)).ownsRow w.heap.size 30 3 (.slice A' (RL a b k).length cc) (RL a b k).length (mcells (RL a b k))) := Lib.hid (own_below HOw.out (HB5.out.alloc HB5.out.size _))
          have HS5 : Hid (w.heap.size ≤ ((((w4.setCell ⟨w1.heap.size, 0, none⟩ (.int .i64 y.node)).setCell ⟨w1.heap.size, 1, none⟩ (.int .i64 y.ver)).setCell ⟨w1.heap.size, 2, none⟩ (.bool y.up))).heap.size) := Lib.hid (Nat.le_trans HB.out.size HB5.out.size)
          go_wp2_with (at_builtin; refine wpList_append_own _ rfl _ _ 22 rfl w.heap.size 30 i0 _ 3 24 Tryd.underlying22 hi hz0 hz1 hz2 rfl (by decide) _ _ _ rfl HO5.out ⟨w4.heap.size, 0, none⟩ 1 1 (mcells [y]) rfl rfl (by rw [← HSZ.out]; exact news_at _ _ _ (heap_alloc_new ((((w4.setCell ⟨w1.heap.size, 0, none⟩ (.int .i64 y.node)).setCell ⟨w1.heap.size, 1, none⟩ (.int .i64 y.ver)).setCell ⟨w1.heap.size, 2, none⟩ (.bool y.up))) (mblk y))) (one_mcells _) (by have := HLe.out; unfold maxLen; omega) (by have := HLe.out; omega) (le_alloc HS5.out) ?_; intro v' w6 hown6 hgr6 _)
          obtain ⟨A6, c6, hv6⟩ := own_slice hown6
          rw [← mcells_append] at hown6
          have e6 : (RL a b k).length + 1 = (RL a b (k + 1)).length := by rw [H5.out]; simp
          rw [← H5.out, e6] at hown6
          rw [e6] at hv6
          have H6 := Lib.hid hown6; have HG6 := Lib.hid hgr6; have HV6 := Lib.hid hv6
          clear hown6 hgr6 hv6 e6
          rw [HV6.out]
          go_wp2
          go_roundw
          case rel => exact ⟨k + 1, c6, A6, by omega, by go_num, rfl, by rw [← HV6.out]; exact H6.out, ((HB.out.trans (HB5.out.mono HB.out.size)).alloc HS5.out _).grown HG6.out (le_alloc HS5.out) (fun j hj => (HLt.out j hj).1)⟩
          case measure => simp [intOf]; omega
      | true =>
        cases q with
        | false =>
          simp [go_sem]
          have H5 := Lib.hid (RL_tf a b k HP.out.symm HQ.out.symm)
          rw [← HX.out] at H5
          have HB5 : Hid (Below wr.heap.size wr w4) := Lib.hid (HB4.out)
          have HO5 : Hid (((w4).alloc (mblk x)).ownsRow w.heap.size 30 3 (.slice A' (RL a b k).length cc) (RL a b k).length (mcells (RL a b k))) := Lib.hid (own_below HOw.out (HB5.out.alloc HB5.out.size _))
          have HS5 : Hid (w.heap.size ≤ (w4).heap.size) := Lib.hid (Nat.le_trans HB.out.size HB5.out.size)
          go_wp2_with (at_builtin; refine wpList_append_own _ rfl _ _ 22 rfl w.heap.size 30 i0 _ 3 24 Tryd.underlying22 hi hz0 hz1 hz2 rfl (by decide) _ _ _ rfl HO5.out ⟨w4.heap.size, 0, none⟩ 1 1 (mcells [x]) rfl rfl (news_at _ _ _ (heap_alloc_new (w4) (mblk x))) (one_mcells _) (by have := HLe.out; unfold maxLen; omega) (by have := HLe.out; omega) (le_alloc HS5.out) ?_; intro v' w6 hown6 hgr6 _)
          obtain ⟨A6, c6, hv6⟩ := own_slice hown6
          rw [← mcells_append] at hown6
          have e6 : (RL a b k).length + 1 = (RL a b (k + 1)).length := by rw [H5.out]; simp
          rw [← H5.out, e6] at hown6
          rw [e6] at hv6
          have H6 := Lib.hid hown6; have HG6 := Lib.hid hgr6; have HV6 := Lib.hid hv6
          clear hown6 hgr6 hv6 e6
          rw [HV6.out]
          go_wp2
          go_roundw
          case rel => exact ⟨k + 1, c6, A6, by omega, by go_num, rfl, by rw [← HV6.out]; exact H6.out, ((HB.out.trans (HB5.out.mono HB.out.size)).alloc HS5.out _).grown HG6.out (le_alloc HS5.out) (fun j hj => (HLt.out j hj).1)⟩
          case measure => simp [intOf]; omega
        | true =>
          by_cases hv : x.ver < y.ver
          · simp [go_sem]
            have H5 := Lib.hid (RL_tty a b k HP.out.symm HQ.out.symm (by rw [← HX.out, ← HY.out]; exact Or.inl hv))
            rw [← HY.out] at H5
            have HSZ : Hid (((((w4.setCell ⟨w1.heap.size, 0, none⟩ (.int .i64 y.node)).setCell ⟨w1.heap.size, 1, none⟩ (.int .i64 y.ver)).setCell ⟨w1.heap.size, 2, none⟩ (.bool y.up))).heap.size = w4.heap.size) := Lib.hid (by simp)
            have HB5 : Hid (Below wr.heap.size wr (((w4.setCell ⟨w1.heap.size, 0, none⟩ (.int .i64 y.node)).setCell ⟨w1.heap.size, 1, none⟩ (.int .i64 y.ver)).setCell ⟨w1.heap.size, 2, none⟩ (.bool y.up))) := Lib.hid (((HB4.out.setCell HS1.out _).setCell HS1.out _).setCell HS1.out _)
            have HO5 : Hid ((((((w4.setCell ⟨w1.heap.size, 0, none⟩ (.int .i64 y.node)).setCell ⟨w1.heap.size, 1, none⟩ (.int .i64 y.ver)).setCell ⟨w1.heap.size, 2, none⟩ (.bool y.up))).alloc (mblk y)).ownsRow w.heap.size 30 3 (.slice A' (RL a b k).length cc) (RL a b k).length (mcells (RL a b k))) := Lib.hid (own_below HOw.out (HB5.out.alloc HB5.out.size _))
            have HS5 : Hid (w.heap.size ≤ ((((w4.setCell ⟨w1.heap.size, 0, none⟩ (.int .i64 y.node)).setCell ⟨w1.heap.size, 1, none⟩ (.int .i64 y.ver)).setCell ⟨w1.heap.size, 2, none⟩ (.bool y.up))).heap.size) := Lib.hid (Nat.le_trans HB.out.size HB5.out.size)
            go_wp2_with (at_builtin; refine wpList_append_own _ rfl _ _ 22 rfl w.heap.size 30 i0 _ 3 24 Tryd.underlying22 hi hz0 hz1 hz2 rfl (by decide) _ _ _ rfl HO5.out ⟨w4.heap.size, 0, none⟩ 1 1 (mcells [y]) rfl rfl (by rw [← HSZ.out]; exact news_at _ _ _ (heap_alloc_new ((((w4.setCell ⟨w1.heap.size, 0, none⟩ (.int .i64 y.node)).setCell ⟨w1.heap.size, 1, none⟩ (.int .i64 y.ver)).setCell ⟨w1.heap.size, 2, none⟩ (.bool y.up))) (mblk y))) (one_mcells _) (by have := HLe.out; unfold maxLen; omega) (by have := HLe.out; omega) (le_alloc HS5.out) ?_; intro v' w6 hown6 hgr6 _)
            obtain ⟨A6, c6, hv6⟩ := own_slice hown6
            rw [← mcells_append] at hown6
            have e6 : (RL a b k).length + 1 = (RL a b (k + 1)).length := by rw [H5.out]; simp
            rw [← H5.out, e6] at hown6
            rw [e6] at hv6
            have H6 := Lib.hid hown6; have HG6 := Lib.hid hgr6; have HV6 := Lib.hid hv6
            clear hown6 hgr6 hv6 e6
            rw [HV6.out]
            go_wp2
            go_roundw
            case rel => exact ⟨k + 1, c6, A6, by omega, by go_num, rfl, by rw [← HV6.out]; exact H6.out, ((HB.out.trans (HB5.out.mono HB.out.size)).alloc HS5.out _).grown HG6.out (le_alloc HS5.out) (fun j hj => (HLt.out j hj).1)⟩
            case measure => simp [intOf]; omega
          · have hv' : decide (x.ver < y.ver) = false := by simpa using hv
            by_cases he : y.ver = x.ver
            · have he' : (y.ver == x.ver) = true := by simpa using he
              obtain ⟨u, hu⟩ : ∃ u, u = y.up := ⟨_, rfl⟩
              rw [← hu] at y2
              cases u with
              | false =>
                have H5 := Lib.hid (RL_tty a b k HP.out.symm HQ.out.symm (by rw [← HX.out, ← HY.out]; exact Or.inr ⟨he, hu.symm⟩))
                rw [← HY.out] at H5
                have hye : y = ⟨y.node, y.ver, false⟩ := by rw [hu]
                have H5 := Lib.hid (H5.out.trans (congrArg (fun z => RL a b k ++ [z]) hye))
                have HE := Lib.hid he; have HU := Lib.hid hu; clear he hu hye
                have HSZ : Hid (((((w4.setCell ⟨w1.heap.size, 0, none⟩ (.int .i64 y.node)).setCell ⟨w1.heap.size, 1, none⟩ (.int .i64 y.ver)).setCell ⟨w1.heap.size, 2, none⟩ (.bool false))).heap.size = w4.heap.size) := Lib.hid (by simp)
                have HB5 : Hid (Below wr.heap.size wr (((w4.setCell ⟨w1.heap.size, 0, none⟩ (.int .i64 y.node)).setCell ⟨w1.heap.size, 1, none⟩ (.int .i64 y.ver)).setCell ⟨w1.heap.size, 2, none⟩ (.bool false))) := Lib.hid (((HB4.out.setCell HS1.out _).setCell HS1.out _).setCell HS1.out _)
                have HO5 : Hid ((((((w4.setCell ⟨w1.heap.size, 0, none⟩ (.int .i64 y.node)).setCell ⟨w1.heap.size, 1, none⟩ (.int .i64 y.ver)).setCell ⟨w1.heap.size, 2, none⟩ (.bool false))).alloc (.cells #[.int .i64 y.node, .int .i64 y.ver, .bool false] 30)).ownsRow w.heap.size 30 3 (.slice A' (RL a b k).length cc) (RL a b k).length (mcells (RL a b k))) := Lib.hid (own_below HOw.out (HB5.out.alloc HB5.out.size _))
                have HS5 : Hid (w.heap.size ≤ ((((w4.setCell ⟨w1.heap.size, 0, none⟩ (.int .i64 y.node)).setCell ⟨w1.heap.size, 1, none⟩ (.int .i64 y.ver)).setCell ⟨w1.heap.size, 2, none⟩ (.bool false))).heap.size) := Lib.hid (Nat.le_trans HB.out.size HB5.out.size)
                go_wp2_with (at_builtin; refine wpList_append_own _ rfl _ _ 22 rfl w.heap.size 30 i0 _ 3 24 Tryd.underlying22 hi hz0 hz1 hz2 rfl (by decide) _ _ _ rfl HO5.out ⟨w4.heap.size, 0, none⟩ 1 1 (mcells [⟨y.node, y.ver, false⟩]) rfl rfl (by rw [← HSZ.out]; exact news_at _ _ _ (heap_alloc_new ((((w4.setCell ⟨w1.heap.size, 0, none⟩ (.int .i64 y.node)).setCell ⟨w1.heap.size, 1, none⟩ (.int .i64 y.ver)).setCell ⟨w1.heap.size, 2, none⟩ (.bool false))) (.cells #[.int .i64 y.node, .int .i64 y.ver, .bool false] 30))) (one_mcells _) (by have := HLe.out; unfold maxLen; omega) (by have := HLe.out; omega) (le_alloc HS5.out) ?_; intro v' w6 hown6 hgr6 _)
                obtain ⟨A6, c6, hv6⟩ := own_slice hown6
                rw [← mcells_append] at hown6
                have e6 : (RL a b k).length + 1 = (RL a b (k + 1)).length := by rw [H5.out]; simp
                rw [← H5.out, e6] at hown6
                rw [e6] at hv6
                have H6 := Lib.hid hown6; have HG6 := Lib.hid hgr6; have HV6 := Lib.hid hv6
                clear hown6 hgr6 hv6 e6
                rw [HV6.out]
                go_wp2
                go_roundw
                case rel => exact ⟨k + 1, c6, A6, by omega, by go_num, rfl, by rw [← HV6.out]; exact H6.out, ((HB.out.trans (HB5.out.mono HB.out.size)).alloc HS5.out _).grown HG6.out (le_alloc HS5.out) (fun j hj => (HLt.out j hj).1)⟩
                case measure => simp [intOf]; omega
              | true =>
                have H5 := Lib.hid (RL_ttx a b k HP.out.symm HQ.out.symm (by rw [← HX.out, ← HY.out]; exact hv) (by rw [← HY.out]; exact fun _ => hu.symm))
                rw [← HX.out] at H5
                have HE := Lib.hid he; have HU := Lib.hid hu; clear he hu
                have HB5 : Hid (Below wr.heap.size wr w4) := Lib.hid (HB4.out)
                have HO5 : Hid (((w4).alloc (mblk x)).ownsRow w.heap.size 30 3 (.slice A' (RL a b k).length cc) (RL a b k).length (mcells (RL a b k))) := Lib.hid (own_below HOw.out (HB5.out.alloc HB5.out.size _))
                have HS5 : Hid (w.heap.size ≤ (w4).heap.size) := Lib.hid (Nat.le_trans HB.out.size HB5.out.size)
                go_wp2_with (at_builtin; refine wpList_append_own _ rfl _ _ 22 rfl w.heap.size 30 i0 _ 3 24 Tryd.underlying22 hi hz0 hz1 hz2 rfl (by decide) _ _ _ rfl HO5.out ⟨w4.heap.size, 0, none⟩ 1 1 (mcells [x]) rfl rfl (news_at _ _ _ (heap_alloc_new (w4) (mblk x))) (one_mcells _) (by have := HLe.out; unfold maxLen; omega) (by have := HLe.out; omega) (le_alloc HS5.out) ?_; intro v' w6 hown6 hgr6 _)
                obtain ⟨A6, c6, hv6⟩ := own_slice hown6
                rw [← mcells_append] at hown6
                have e6 : (RL a b k).length + 1 = (RL a b (k + 1)).length := by rw [H5.out]; simp
                rw [← H5.out, e6] at hown6
                rw [e6] at hv6
                have H6 := Lib.hid hown6; have HG6 := Lib.hid hgr6; have HV6 := Lib.hid hv6
                clear hown6 hgr6 hv6 e6
                rw [HV6.out]
                go_wp2
                go_roundw
                case rel => exact ⟨k + 1, c6, A6, by omega, by go_num, rfl, by rw [← HV6.out]; exact H6.out, ((HB.out.trans (HB5.out.mono HB.out.size)).alloc HS5.out _).grown HG6.out (le_alloc HS5.out) (fun j hj => (HLt.out j hj).1)⟩
                case measure => simp [intOf]; omega
            · have he' : (y.ver == x.ver) = false := by simpa using he
              have H5 := Lib.hid (RL_ttx a b k HP.out.symm HQ.out.symm (by rw [← HX.out, ← HY.out]; exact hv) (by rw [← HX.out, ← HY.out]; exact fun e => absurd e he))
              rw [← HX.out] at H5
              have HB5 : Hid (Below wr.heap.size wr w4) := Lib.hid (HB4.out)
              have HO5 : Hid (((w4).alloc (mblk x)).ownsRow w.heap.size 30 3 (.slice A' (RL a b k).length cc) (RL a b k).length (mcells (RL a b k))) := Lib.hid (own_below HOw.out (HB5.out.alloc HB5.out.size _))
              have HS5 : Hid (w.heap.size ≤ (w4).heap.size) := Lib.hid (Nat.le_trans HB.out.size HB5.out.size)
              go_wp2_with (at_builtin; refine wpList_append_own _ rfl _ _ 22 rfl w.heap.size 30 i0 _ 3 24 Tryd.underlying22 hi hz0 hz1 hz2 rfl (by decide) _ _ _ rfl HO5.out ⟨w4.heap.size, 0, none⟩ 1 1 (mcells [x]) rfl rfl (news_at _ _ _ (heap_alloc_new (w4) (mblk x))) (one_mcells _) (by have := HLe.out; unfold maxLen; omega) (by have := HLe.out; omega) (le_alloc HS5.out) ?_; intro v' w6 hown6 hgr6 _)
              obtain ⟨A6, c6, hv6⟩ := own_slice hown6
              rw [← mcells_append] at hown6
              have e6 : (RL a b k).length + 1 = (RL a b (k + 1)).length := by rw [H5.out]; simp
              rw [← H5.out, e6] at hown6
              rw [e6] at hv6
              have H6 := Lib.hid hown6; have HG6 := Lib.hid hgr6; have HV6 := Lib.hid hv6
              clear hown6 hgr6 hv6 e6
              rw [HV6.out]
              go_wp2
              go_roundw
              case rel => exact ⟨k + 1, c6, A6, by omega, by go_num, rfl, by rw [← HV6.out]; exact H6.out, ((HB.out.trans (HB5.out.mono HB.out.size)).alloc HS5.out _).grown HG6.out (le_alloc HS5.out) (fun j hj => (HLt.out j hj).1)⟩
              case measure => simp [intOf]; omega
    · obtain rfl : k = 16 := by omega
      go_wp2
      go_ret
      exact ⟨_, rfl, HOw.out, HB.out⟩
end Go.Proofs.YtachfnmbhhppbaaDoor
