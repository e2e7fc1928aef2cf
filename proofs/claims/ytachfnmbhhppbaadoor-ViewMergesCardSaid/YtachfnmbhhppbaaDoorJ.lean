/- Newer, Alive; the errors. -/
import Derived.Test.YtachfnmbhhppbaaDoorI
namespace Go.Proofs.YtachfnmbhhppbaaDoor
set_option maxRecDepth 100000
open Go.RowKit

theorem Merge_bad (A B : Option Addr) (n c n' c' : Nat) (a b : List Mem) (w : World) (hl : a.length = n) (hl' : b.length = n') (hr : Rd w w.heap.size A a) (hr' : Rd w w.heap.size B b) (hn : n ≤ 9223372036854775807) (hn' : n' ≤ 9223372036854775807) (h : bothErr a b ≠ 0) :
    Calls Tryd.prog 9 #[.slice A n c, .slice B n' c'] w fun e w' => e = .returned (.tuple #[.slice none 0 0, .iface 42 (.int .i64 (bothErr a b))]) ∧ Below w.heap.size w w' := by
  have HL := Lib.hid hl; have HL' := Lib.hid hl'; have HR := Lib.hid hr; have HR' := Lib.hid hr'; have H := Lib.hid h
  clear hl hl' hr hr' h
  go_enter Tryd.func9, Tryd.ntmps9
  go_wp2_with fail
  refine (both_bad A B n c n' c' a b _ HL.out HL'.out HR.out HR'.out hn hn' H.out).mono ?_
  rintro e w1 ⟨rfl, hb1⟩
  go_wp2
  go_ret2
  exact ⟨rfl, hb1⟩
theorem Newer_bad (A B : Option Addr) (n c n' c' : Nat) (a b : List Mem) (w : World) (hl : a.length = n) (hl' : b.length = n') (hr : Rd w w.heap.size A a) (hr' : Rd w w.heap.size B b) (hn : n ≤ 9223372036854775807) (hn' : n' ≤ 9223372036854775807) (h : bothErr a b ≠ 0) :
    Calls Tryd.prog 10 #[.slice A n c, .slice B n' c'] w fun e w' => e = .returned (.tuple #[.slice none 0 0, .iface 42 (.int .i64 (bothErr a b))]) ∧ Below w.heap.size w w' := by
  have HL := Lib.hid hl; have HL' := Lib.hid hl'; have HR := Lib.hid hr; have HR' := Lib.hid hr'; have H := Lib.hid h
  clear hl hl' hr hr' h
  go_enter Tryd.func10, Tryd.ntmps10
  go_wp2_with fail
  refine (both_bad A B n c n' c' a b _ HL.out HL'.out HR.out HR'.out hn hn' H.out).mono ?_
  rintro e w1 ⟨rfl, hb1⟩
  go_wp2
  go_ret2
  exact ⟨rfl, hb1⟩

theorem newerL_snoc (a b : List Mem) (k : Nat) (m : Mem) (h : b[k]? = some m) : newerL a (b.take (k + 1)) = newerL a (b.take k) ++ (if newB a m = true then [m] else []) := by
  obtain ⟨h1, h2⟩ := List.getElem?_eq_some_iff.1 h
  rw [List.take_succ_eq_append_getElem h1, h2, newerL, newerL, List.filter_append]
  congr 1
  by_cases hp : newB a m = true <;> simp [hp]
theorem newB_none {a : List Mem} {m : Mem} (h : hasN a m.node = false) : newB a m = true := by
  have : get a m.node = none := get_none_of fun x hx e => by
    have : hasN a m.node = true := by rw [hasN, List.any_eq_true]; exact ⟨x, hx, by simp [e]⟩
    rw [this] at h; cases h
  simp [newB, this]
theorem newB_some {a : List Mem} (hs : Srt a) {m x : Mem} (hx : a[posOf a m.node]? = some x) (hn : x.node = m.node) : newB a m = laterB m x := by
  have := get_of_mem hs (List.mem_of_getElem? hx)
  rw [hn] at this
  simp [newB, this]
theorem length_newerL (a b : List Mem) : (newerL a b).length ≤ b.length := List.length_filter_le _ _

set_option maxHeartbeats 800000 in
theorem Newer_ok (A B : Option Addr) (n c n' c' : Nat) (a b : List Mem) (w : World) (hl : a.length = n) (hl' : b.length = n') (hr : Rd w w.heap.size A a) (hr' : Rd w w.heap.size B b) (ha : Valid a) (hb : Valid b) :
    Calls Tryd.prog 10 #[.slice A n c, .slice B n' c'] w fun e w' => ∃ v, e = .returned (.tuple #[v, .nilIface]) ∧ w'.ownsRow w.heap.size 30 3 v (newerL a b).length (mcells (newerL a b)) ∧ Below w.heap.size w w' := by
  obtain ⟨i0, hi, hz0, hz1, hz2⟩ := info_parts info28
  have hn : n ≤ 16 := by have := valid_length ha; omega
  have hn' : n' ≤ 16 := by have := valid_length hb; omega
  have HL := Lib.hid hl; have HL' := Lib.hid hl'; have HR := Lib.hid hr; have HR' := Lib.hid hr'; have HVa := Lib.hid ha; have HVb := Lib.hid hb
  clear hl hl' hr hr' ha hb
  go_enter Tryd.func10, Tryd.ntmps10
  go_wp2_with fail
  refine (both_ok A B n c n' c' a b _ HL.out HL'.out HR.out HR'.out (by omega) (by omega) ((viewErr_zero a).2 HVa.out) ((viewErr_zero b).2 HVb.out)).mono ?_
  rintro e w1 ⟨rfl, hb1⟩
  have HB1 := Lib.hid hb1; clear hb1
  go_wp2_with fail
  go_loopw [7, 20] (fun o i wr => ∃ (k cc : Nat) (A' : Option Addr), k ≤ n' ∧ i = .int .i64 k ∧ o = .slice A' (newerL a (b.take k)).length cc ∧ wr.ownsRow w.heap.size 30 3 (.slice A' (newerL a (b.take k)).length cc) (newerL a (b.take k)).length (mcells (newerL a (b.take k))) ∧ Below w.heap.size w wr) (fun _ i _ => n' - (intOf i).toNat)
  case atStart => exact ⟨0, 0, none, by omega, rfl, rfl, World.ownsRow_nil _ _ _ _, HB1.out⟩
  case round =>
    obtain ⟨k, cc, A', hk, rfl, rfl, hown, hb⟩ := hrel
    have hlt' := hown.lt
    have HOw := Lib.hid hown; have HLt := Lib.hid hlt'; clear hown hlt'
    by_cases hlt : k < n'
    · obtain ⟨bk, off, m, hB, hblk, hm, e1, e2, e3⟩ := HR'.out.at_ hb (k := k) (by rw [HL'.out]; omega)
      subst hB
      have HM := Lib.hid hm; clear hm
      have hle := length_newerL a (b.take k)
      rw [List.length_take] at hle
      have HLe : Hid ((newerL a (b.take k)).length ≤ 32) := Lib.hid (by omega)
      clear hle
      obtain ⟨W2, hW2⟩ : ∃ W2, W2 = wr.alloc (.cells #[.int .i64 m.node, .int .i64 m.ver, .bool m.up] 30) := ⟨_, rfl⟩
      have hbW2 : Below wr.heap.size wr W2 := by rw [hW2]; exact (Below.refl _ _).alloc (Nat.le_refl _) _
      have hsz2 : W2.heap.size = wr.heap.size + 1 := by rw [hW2]; simp
      have c1 : W2.cell? ⟨wr.heap.size, 0, none⟩ = some (.int .i64 m.node) := by rw [hW2]; simp
      have c2 : W2.cell? ⟨wr.heap.size, 1, none⟩ = some (.int .i64 m.ver) := by rw [hW2]; simp
      have c3 : W2.cell? ⟨wr.heap.size, 2, none⟩ = some (.bool m.up) := by rw [hW2]; simp
      have HB := Lib.hid hb; have HW2 := Lib.hid hW2; have HBW2 := Lib.hid hbW2; have HS2 := Lib.hid hsz2
      clear hb hW2 hbW2 hsz2
      go_wp2_with fail
      rw [← HW2.out]
      refine (find_any A n c a m.node W2 HL.out HVa.out.1 ((HR.out.below (HB.out.trans (HBW2.out.mono HB.out.size))).more (by have := HB.out.size; have := HS2.out; omega)) (by omega)).mono ?_
      rintro e w3 ⟨rfl, hb3⟩
      have d1 := (hb3.cell (p := ⟨wr.heap.size, 0, none⟩) (by rw [HS2.out]; exact Nat.lt_succ_self _)).trans c1
      have d2 := (hb3.cell (p := ⟨wr.heap.size, 1, none⟩) (by rw [HS2.out]; exact Nat.lt_succ_self _)).trans c2
      have d3 := (hb3.cell (p := ⟨wr.heap.size, 2, none⟩) (by rw [HS2.out]; exact Nat.lt_succ_self _)).trans c3
      clear c1 c2 c3
      have hbr3 : Below wr.heap.size wr w3 := HBW2.out.trans (hb3.mono (by rw [HS2.out]; omega))
      have hw3 : wr.heap.size + 1 ≤ w3.heap.size := by have := hb3.size; have := HS2.out; omega
      have HBR3 := Lib.hid hbr3; have HB3 := Lib.hid hb3; clear hbr3 hb3
      by_cases hh : hasN a m.node = true
      · obtain ⟨x, hx, hxn⟩ := hasN_pos a m.node HVa.out.1 hh
        have hpx := (List.getElem?_eq_some_iff.1 hx).1
        have hNB := newB_some HVa.out.1 hx hxn
        obtain ⟨p, hp⟩ : ∃ p, p = posOf a m.node := ⟨_, rfl⟩
        rw [← hp] at hx hpx
        rw [hh, ← hp]
        have hpn : p < n := by have := HL.out; omega
        have HX := Lib.hid hx
        obtain ⟨bx, ox, x', hAx, hblx, hx', x1, x2, x3⟩ := HR.out.at_ (HB.out.trans (HBR3.out.mono HB.out.size)) (k := p) hpx
        rw [HX.out] at hx'
        cases hx'
        subst hAx
        have hbx : bx < wr.heap.size + 1 := by have := HB.out.size; omega
        have HNB := Lib.hid hNB
        have d1' := Aft.cell (B := wr.heap.size + 1) d1 (Nat.lt_succ_self _)
        have d2' := Aft.cell (B := wr.heap.size + 1) d2 (Nat.lt_succ_self _)
        have d3' := Aft.cell (B := wr.heap.size + 1) d3 (Nat.lt_succ_self _)
        have x1' := Aft.cell x1 hbx
        have x2' := Aft.cell x2 hbx
        have x3' := Aft.cell x3 hbx
        clear hx hpx hNB hp hh hxn
        by_cases hla : laterB m x = true
        · have HLa := Lib.hid hla
          have HNew : Hid (newB a m = true) := Lib.hid (HNB.out.trans hla)
          clear hla
          go_wp2_with fail
          refine wp_region_aft (wr.heap.size + 1) (by kernel_rfl) (by kernel_rfl) ?_
          repeat (quiet_step ((go_at_call 21; refine Aft.calls _ (later_yes _ _ _ _ _ _ _ HLa.out) hw3)))
          refine wpQuiet_nil ?_
          rintro w4 ⟨⟨w4', hb4'⟩, hw4⟩
          have hb34 : Below (wr.heap.size + 1) w3 w4 := by rw [hw4]; exact hb4'
          have hb4 : Below wr.heap.size wr w4 := HBR3.out.trans (hb34.mono (by omega))
          have k1 := (hb34.cell (p := ⟨wr.heap.size, 0, none⟩) (Nat.lt_succ_self _)).trans d1
          have k2 := (hb34.cell (p := ⟨wr.heap.size, 1, none⟩) (Nat.lt_succ_self _)).trans d2
          have k3 := (hb34.cell (p := ⟨wr.heap.size, 2, none⟩) (Nat.lt_succ_self _)).trans d3
          clear hw4 hb4' w4' hb34 d1 d2 d3 d1' d2' d3' x1 x2 x3 x1' x2' x3'
          have HB4 : Hid (Below w.heap.size w w4) := Lib.hid (HB.out.trans (hb4.mono HB.out.size))
          have HS4 : Hid (w.heap.size ≤ w4.heap.size) := Lib.hid (HB4.out.size)
          have HO4 : Hid ((w4.alloc (mblk m)).ownsRow w.heap.size 30 3 (.slice A' (newerL a (b.take k)).length cc) (newerL a (b.take k)).length (mcells (newerL a (b.take k)))) := Lib.hid (own_below HOw.out (hb4.alloc hb4.size _))
          clear hb4
          go_wp2_with (at_builtin; refine wpList_append_own _ rfl _ _ 22 rfl w.heap.size 30 i0 _ 3 24 Tryd.underlying22 hi hz0 hz1 hz2 rfl (by decide) _ _ _ rfl HO4.out ⟨w4.heap.size, 0, none⟩ 1 1 (mcells [m]) rfl rfl (news_at _ _ _ (heap_alloc_new w4 (mblk m))) (one_mcells _) (by have := HLe.out; unfold maxLen; omega) (by have := HLe.out; omega) (by have := HS4.out; simp; omega) ?_; intro v' w5 hown5 hgr5 _)
          obtain ⟨A5, c5, hv5⟩ := own_slice hown5
          rw [← mcells_append] at hown5
          have e5 : newerL a (b.take (k + 1)) = newerL a (b.take k) ++ [m] := by rw [newerL_snoc a b k m HM.out, HNew.out]; rfl
          have e6 : (newerL a (b.take k)).length + 1 = (newerL a (b.take (k + 1))).length := by rw [e5]; simp
          rw [← e5, e6] at hown5
          rw [e6] at hv5
          have H5 := Lib.hid hown5; have HG5 := Lib.hid hgr5; have HV5 := Lib.hid hv5
          clear hown5 hgr5 hv5 e5 e6
          rw [HV5.out]
          go_wp2
          go_roundw
          case rel => exact ⟨k + 1, c5, A5, by omega, by go_num, rfl, by rw [← HV5.out]; exact H5.out, (HB4.out.alloc HS4.out _).grown HG5.out (by have := HS4.out; simp; omega) (fun j hj => (HLt.out j hj).1)⟩
          case measure => simp [intOf]; omega
        · have hla' : laterB m x = false := by simpa using hla
          have HLa := Lib.hid hla'
          have HNew : Hid (newB a m = false) := Lib.hid (HNB.out.trans hla')
          clear hla hla'
          go_wp2_with fail
          refine wp_region_aft (wr.heap.size + 1) (by kernel_rfl) (by kernel_rfl) ?_
          repeat (quiet_step ((go_at_call 21; refine Aft.calls _ (later_no _ _ _ _ _ _ _ HLa.out) hw3)))
          refine wpQuiet_nil ?_
          rintro w4 ⟨⟨w4', hb4'⟩, hw4⟩
          have hb34 : Below (wr.heap.size + 1) w3 w4 := by rw [hw4]; exact hb4'
          have hb4 : Below wr.heap.size wr w4 := HBR3.out.trans (hb34.mono (by omega))
          have HB4 : Hid (Below w.heap.size w w4) := Lib.hid (HB.out.trans (hb4.mono HB.out.size))
          have HO4 : Hid (w4.ownsRow w.heap.size 30 3 (.slice A' (newerL a (b.take k)).length cc) (newerL a (b.take k)).length (mcells (newerL a (b.take k)))) := Lib.hid (own_below HOw.out hb4)
          have e5 : newerL a (b.take (k + 1)) = newerL a (b.take k) := by rw [newerL_snoc a b k m HM.out, HNew.out]; simp
          have HE5 := Lib.hid e5
          clear e5 hw4 hb4' w4' hb34 hb4 d1 d2 d3 d1' d2' d3' x1 x2 x3 x1' x2' x3'
          go_wp2
          go_roundw
          case rel => exact ⟨k + 1, cc, A', by omega, by go_num, by rw [HE5.out], by rw [HE5.out]; exact HO4.out, HB4.out⟩
          case measure => simp [intOf]; omega
      · have hh' : hasN a m.node = false := by simpa using hh
        have HNew : Hid (newB a m = true) := Lib.hid (newB_none hh')
        rw [hh']
        clear hh hh'
        go_wp2_with fail
        go_quiet (fail)
        obtain ⟨w4, hw4⟩ : ∃ w4, w4 = w3.drewN nq := ⟨_, rfl⟩
        rw [← hw4]
        have hb34 : Below (wr.heap.size + 1) w3 w4 := by rw [hw4]; exact below_drewN (Below.refl _ _) _
        have hb4 : Below wr.heap.size wr w4 := HBR3.out.trans (hb34.mono (by omega))
        have k1 := (hb34.cell (p := ⟨wr.heap.size, 0, none⟩) (Nat.lt_succ_self _)).trans d1
        have k2 := (hb34.cell (p := ⟨wr.heap.size, 1, none⟩) (Nat.lt_succ_self _)).trans d2
        have k3 := (hb34.cell (p := ⟨wr.heap.size, 2, none⟩) (Nat.lt_succ_self _)).trans d3
        clear hw4 hb34 d1 d2 d3
        have HB4 : Hid (Below w.heap.size w w4) := Lib.hid (HB.out.trans (hb4.mono HB.out.size))
        have HS4 : Hid (w.heap.size ≤ w4.heap.size) := Lib.hid (HB4.out.size)
        have HO4 : Hid ((w4.alloc (mblk m)).ownsRow w.heap.size 30 3 (.slice A' (newerL a (b.take k)).length cc) (newerL a (b.take k)).length (mcells (newerL a (b.take k)))) := Lib.hid (own_below HOw.out (hb4.alloc hb4.size _))
        clear hb4
        go_wp2_with (at_builtin; refine wpList_append_own _ rfl _ _ 22 rfl w.heap.size 30 i0 _ 3 24 Tryd.underlying22 hi hz0 hz1 hz2 rfl (by decide) _ _ _ rfl HO4.out ⟨w4.heap.size, 0, none⟩ 1 1 (mcells [m]) rfl rfl (news_at _ _ _ (heap_alloc_new w4 (mblk m))) (one_mcells _) (by have := HLe.out; unfold maxLen; omega) (by have := HLe.out; omega) (by have := HS4.out; simp; omega) ?_; intro v' w5 hown5 hgr5 _)
        obtain ⟨A5, c5, hv5⟩ := own_slice hown5
        rw [← mcells_append] at hown5
        have e5 : newerL a (b.take (k + 1)) = newerL a (b.take k) ++ [m] := by rw [newerL_snoc a b k m HM.out, HNew.out]; rfl
        have e6 : (newerL a (b.take k)).length + 1 = (newerL a (b.take (k + 1))).length := by rw [e5]; simp
        rw [← e5, e6] at hown5
        rw [e6] at hv5
        have H5 := Lib.hid hown5; have HG5 := Lib.hid hgr5; have HV5 := Lib.hid hv5
        clear hown5 hgr5 hv5 e5 e6
        rw [HV5.out]
        go_wp2
        go_roundw
        case rel => exact ⟨k + 1, c5, A5, by omega, by go_num, rfl, by rw [← HV5.out]; exact H5.out, (HB4.out.alloc HS4.out _).grown HG5.out (by have := HS4.out; simp; omega) (fun j hj => (HLt.out j hj).1)⟩
        case measure => simp [intOf]; omega
    · go_wp2
      go_ret2
      have e : b.take k = b := List.take_of_length_le (by rw [HL'.out]; omega)
      have hO := HOw.out
      rw [e] at hO ⊢
      exact ⟨_, rfl, hO, hb⟩
end Go.Proofs.YtachfnmbhhppbaaDoor
