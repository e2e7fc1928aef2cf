/- The walk of ViewMerges, both views good. -/
import Derived.Test.YtachfnmbhhppbaaDoorY
namespace Go.Proofs.YtachfnmbhhppbaaDoor
set_option maxRecDepth 100000
open Go.RowKit
set_option maxHeartbeats 4000000 in
theorem merges_good (A : Option Addr) (n c : Nat) (vb : Value) (a b : List Mem) (nd : Int) (up : Bool) (w : World) (ha : SlR w (.slice A n c) a) (hb : SlR w vb b) (hg : Gl w) (h1 : viewErr a = 0) (h2 : viewErr b = 0) :
    Calls Tryd.prog 3 #[.slice A n c, vb, .int .i64 nd, .bool up] w fun e w' => e = .returned (.bool true) ∧ Below w.heap.size w w' := by
  have HA := Lib.hid ha; have HBb := Lib.hid hb; have HG := Lib.hid hg; have HZ := Lib.hid hg.lt
  clear ha hb hg

  have H1 := Lib.hid h1; have H2 := Lib.hid h2; clear h1 h2
  obtain ⟨A1, n1, c1, hAe, hL, h3, hR, h5⟩ := HA.out
  cases hAe
  have HL := Lib.hid hL; have HR := Lib.hid hR; clear hL hR h3 h5
  have HVa : Hid (Valid a) := Lib.hid ((viewErr_zero a).1 H1.out)
  have hn16 : n ≤ 16 := by have := valid_length HVa.out; have := HL.out; omega
  obtain ⟨i3, hi3, hy0, hy1, hy2⟩ := info_parts info3
  have HAl : Hid (alvL a = aliveL a) := Lib.hid (by rw [alvL, if_pos H1.out])
  have HVb : Hid (Valid b) := Lib.hid ((viewErr_zero b).1 H2.out)
  have HLb : Hid (b.length ≤ 1000) := Lib.hid (by have := valid_length HVb.out; omega)
  obtain ⟨i0, hi, hz0, hz1, hz2⟩ := info_parts info28
  obtain ⟨ll, hll⟩ : ∃ ll, ll = RL a b 16 := ⟨_, rfl⟩
  have HLl := Lib.hid hll; clear hll
  have HBo : Hid (bothErr a b = 0) := Lib.hid (by rw [bothErr, if_pos H1.out, H2.out])
  have HMl : Hid (mrgL a b = ll) := Lib.hid (by rw [mrgL, if_pos HBo.out, HLl.out, RL_merge HVa.out HVb.out])
  have HNl : Hid (nwrL a b = tookL a ll) := Lib.hid (by rw [nwrL, if_pos HBo.out, HLl.out, RL_merge HVa.out HVb.out, tookL_merge HVa.out HVb.out])
  have HLt16 : Hid (ll.length ≤ 16) := Lib.hid (by rw [HLl.out]; exact RL_length a b 16)
  have B : Hid (Below w.heap.size w w) := Lib.hid (Below.refl _ _)
  go_enter Tryd.func3, Tryd.ntmps3
  go_wp2_with fail
  refine (View_k _ a 0 _ (HA.out.below B.out) H1.out).mono ?_
  rintro e w1 ⟨rfl, hb1⟩
  have B := Lib.hid (B.out.trans (hb1.mono B.out.size))
  clear hb1
  go_wp2_with fail
  refine (Check_k _ a 0 _ (HA.out.below B.out) H1.out).mono ?_
  rintro e w2 ⟨rfl, hb2⟩
  have B := Lib.hid (B.out.trans (hb2.mono B.out.size))
  clear hb2
  go_wp2_with fail
  refine (Error_k 0 _ (HG.out.below B.out HZ.out)).mono ?_
  rintro e w3 ⟨rfl, hb3⟩
  have B := Lib.hid (B.out.trans (hb3.mono B.out.size))
  clear hb3
  go_wp2_with fail
  refine (View_k _ b 0 _ (HBb.out.below B.out) H2.out).mono ?_
  rintro e w4 ⟨rfl, hb4⟩
  have B := Lib.hid (B.out.trans (hb4.mono B.out.size))
  clear hb4
  go_wp2_with fail
  refine (RMerge_s _ _ a b _ (HA.out.below B.out) (HBb.out.below B.out) (by rw [HL.out]; omega) HLb.out).mono ?_
  rintro e w5 ⟨vw, rfl, hr, hb5⟩
  have B := Lib.hid (B.out.trans (hb5.mono B.out.size))
  have Wn := Lib.hid hr
  clear hb5 hr
  obtain ⟨A2, n2, c2, hw2, hL2, h3', hR2, h5'⟩ := Wn.out
  rw [← HLl.out] at hL2 hR2 Wn
  subst hw2
  have HL2 := Lib.hid hL2; have HR2 := Lib.hid hR2
  have hn2 : n2 ≤ 16 := by have := HLt16.out; omega
  clear hL2 hR2 h3' h5'
  go_wp2_with fail
  go_loopw [13, 14] (fun o i wr => ∃ (k cc : Nat) (A' : Option Addr), k ≤ n2 ∧ i = .int .i64 k ∧ o = .slice A' (tookL a (ll.take k)).length cc ∧ wr.ownsRow w5.heap.size 30 3 (.slice A' (tookL a (ll.take k)).length cc) (tookL a (ll.take k)).length (mcells (tookL a (ll.take k))) ∧ Below w5.heap.size w5 wr) (fun _ i _ => n2 - (intOf i).toNat)
  case atStart => exact ⟨0, 0, none, by omega, rfl, rfl, World.ownsRow_nil _ _ _ _, Below.refl _ _⟩
  case round =>
    obtain ⟨k, cc, A', hk, rfl, rfl, hown, hb⟩ := hrel
    have hlt' := hown.lt
    have HOw := Lib.hid hown; have HLt := Lib.hid hlt'; clear hown hlt'
    by_cases hlt : k < n2
    · obtain ⟨bk, off, m, hB, hblk, hm, e1, e2, e3⟩ := HR2.out.at_ hb (k := k) (by rw [HL2.out]; omega)
      subst hB
      have hsn := tookL_snoc a ll k m hm
      clear hm
      have hle := length_tookL a (ll.take k)
      rw [List.length_take] at hle
      have HLe : Hid ((tookL a (ll.take k)).length ≤ 32) := Lib.hid (by omega)
      clear hle
      have HB := Lib.hid hb; clear hb
      have HSz : Hid (w5.heap.size ≤ wr.heap.size) := Lib.hid HB.out.size
      have HSn := Lib.hid hsn; clear hsn
      have hbk : bk < wr.heap.size := Nat.lt_of_lt_of_le hblk HSz.out
      obtain ⟨x, hx⟩ : ∃ x, x = getZ a m.node := ⟨_, rfl⟩
      obtain ⟨p, hp⟩ : ∃ p, p = (get a m.node).isSome := ⟨_, rfl⟩
      have HX := Lib.hid hx; have HP := Lib.hid hp; clear hx hp
      go_wp2_with fail
      refine (Member_any A n c a m.node _ HL.out ((HR.out.below (B.out.trans (HB.out.mono B.out.size))).more (Nat.le_trans B.out.size HB.out.size)) (by omega) x p HX.out HP.out).mono ?_
      rintro e w1 ⟨rfl, hb1⟩
      obtain ⟨w2, hw2⟩ : ∃ w2, w2 = w1.alloc (.cells #[.int .i64 x.node, .int .i64 x.ver, .bool x.up] 30) := ⟨_, rfl⟩
      have hb2 : Below wr.heap.size wr w2 := by rw [hw2]; exact hb1.alloc hb1.size _
      have x0 : w2.cell? ⟨w1.heap.size, 0, none⟩ = some (.int .i64 x.node) := by rw [hw2]; simp
      have x1 : w2.cell? ⟨w1.heap.size, 1, none⟩ = some (.int .i64 x.ver) := by rw [hw2]; simp
      have x2 : w2.cell? ⟨w1.heap.size, 2, none⟩ = some (.bool x.up) := by rw [hw2]; simp
      have k1 := (hb2.cell (p := ⟨bk, off + k * 3, none⟩) hbk).trans e1
      have k2 := (hb2.cell (p := ⟨bk, off + k * 3 + 1, none⟩) hbk).trans e2
      have k3 := (hb2.cell (p := ⟨bk, off + k * 3 + 2, none⟩) hbk).trans e3
      clear e1 e2 e3
      have HW2 := Lib.hid hw2; have HB2 := Lib.hid hb2; clear hw2 hb2 hb1
      cases p with
      | false =>
        have HTk : Hid (tookB a m = true) := Lib.hid (by rw [tookB, ← HP.out]; rfl)
        go_wp2_with fail
        rw [← HW2.out]
        go_quiet (fail)
        have HB5 : Hid (Below wr.heap.size wr (w2.drewN nq)) := Lib.hid (below_drewN HB2.out nq)
        have HO5 : Hid (((w2.drewN nq).alloc (mblk m)).ownsRow _ _ _ _ _ _) := Lib.hid (own_below HOw.out (HB5.out.alloc HB5.out.size _))
        have HS5 : Hid (w5.heap.size ≤ (w2.drewN nq).heap.size) := Lib.hid (Nat.le_trans HSz.out HB5.out.size)
        go_wp2_with (at_builtin; refine wpList_append_own _ rfl _ _ 22 rfl w5.heap.size 30 i0 _ 3 24 Tryd.underlying22 hi hz0 hz1 hz2 rfl (by decide) _ _ _ rfl HO5.out ⟨w2.heap.size, 0, none⟩ 1 1 (mcells [m]) rfl rfl (news_at _ _ _ (heap_alloc_new (w2.drewN nq) (mblk m))) (one_mcells _) (by have := HLe.out; unfold maxLen; omega) (by have := HLe.out; omega) (le_alloc HS5.out) ?_; intro v' w6 hown6 hgr6 _)
        obtain ⟨A6, c6, hv6⟩ := own_slice hown6
        rw [← mcells_append] at hown6
        have e5 : tookL a (ll.take (k + 1)) = tookL a (ll.take k) ++ [m] := by rw [HSn.out, if_pos HTk.out]
        have e6 : (tookL a (ll.take k)).length + 1 = (tookL a (ll.take (k + 1))).length := by rw [e5]; simp
        rw [← e5, e6] at hown6
        rw [e6] at hv6
        have H6 := Lib.hid hown6; have HG6 := Lib.hid hgr6; have HV6 := Lib.hid hv6
        clear hown6 hgr6 hv6 e5 e6
        rw [HV6.out]
        go_wp2
        go_roundw
        case rel => exact ⟨k + 1, c6, A6, by omega, by go_num, rfl, by rw [← HV6.out]; exact H6.out, ((HB.out.trans (HB5.out.mono HSz.out)).alloc HS5.out _).grown HG6.out (le_alloc HS5.out) (fun j hj => (HLt.out j hj).1)⟩
        case measure => simp [intOf]; omega
      | true =>
        by_cases hxm : x = m
        · have HTk : Hid (tookB a m = false) := Lib.hid (by rw [tookB, ← HP.out, ← HX.out, hxm]; simp)
          have hne := fun w => run_ne_mem x.node x.ver m.node m.ver x.up m.up false w (by rw [hxm]; simp)
          have HXm := Lib.hid hxm; clear hxm
          go_wp2_with fail
          rw [← HW2.out]
          go_quiet (fail)
          go_wp2
          go_roundw
          case rel => exact ⟨k + 1, cc, A', by omega, by go_num, by rw [HSn.out, if_neg (by rw [HTk.out]; decide)]; simp, by rw [HSn.out, if_neg (by rw [HTk.out]; decide)]; simpa using own_below HOw.out (below_drewN HB2.out _), HB.out.trans ((below_drewN HB2.out _).mono HSz.out)⟩
          case measure => simp [intOf]; omega
        · have HTk : Hid (tookB a m = true) := Lib.hid (by rw [tookB, ← HP.out, ← HX.out]; simp [hxm])
          have hne := fun w => run_ne_mem x.node x.ver m.node m.ver x.up m.up true w (by cases x; cases m; simp at hxm ⊢; simpa using hxm)
          have HXm := Lib.hid hxm; clear hxm
          go_wp2_with fail
          rw [← HW2.out]
          go_quiet (fail)
          have HB5 : Hid (Below wr.heap.size wr (w2.drewN nq)) := Lib.hid (below_drewN HB2.out nq)
          have HO5 : Hid (((w2.drewN nq).alloc (mblk m)).ownsRow _ _ _ _ _ _) := Lib.hid (own_below HOw.out (HB5.out.alloc HB5.out.size _))
          have HS5 : Hid (w5.heap.size ≤ (w2.drewN nq).heap.size) := Lib.hid (Nat.le_trans HSz.out HB5.out.size)
          go_wp2_with (at_builtin; refine wpList_append_own _ rfl _ _ 22 rfl w5.heap.size 30 i0 _ 3 24 Tryd.underlying22 hi hz0 hz1 hz2 rfl (by decide) _ _ _ rfl HO5.out ⟨w2.heap.size, 0, none⟩ 1 1 (mcells [m]) rfl rfl (news_at _ _ _ (heap_alloc_new (w2.drewN nq) (mblk m))) (one_mcells _) (by have := HLe.out; unfold maxLen; omega) (by have := HLe.out; omega) (le_alloc HS5.out) ?_; intro v' w6 hown6 hgr6 _)
          obtain ⟨A6, c6, hv6⟩ := own_slice hown6
          rw [← mcells_append] at hown6
          have e5 : tookL a (ll.take (k + 1)) = tookL a (ll.take k) ++ [m] := by rw [HSn.out, if_pos HTk.out]
          have e6 : (tookL a (ll.take k)).length + 1 = (tookL a (ll.take (k + 1))).length := by rw [e5]; simp
          rw [← e5, e6] at hown6
          rw [e6] at hv6
          have H6 := Lib.hid hown6; have HG6 := Lib.hid hgr6; have HV6 := Lib.hid hv6
          clear hown6 hgr6 hv6 e5 e6
          rw [HV6.out]
          go_wp2
          go_roundw
          case rel => exact ⟨k + 1, c6, A6, by omega, by go_num, rfl, by rw [← HV6.out]; exact H6.out, ((HB.out.trans (HB5.out.mono HSz.out)).alloc HS5.out _).grown HG6.out (le_alloc HS5.out) (fun j hj => (HLt.out j hj).1)⟩
          case measure => simp [intOf]; omega
    · have e : ll.take k = ll := List.take_of_length_le (by rw [HL2.out]; omega)
      have hN := SlR.own HOw.out (by have := length_tookL a (ll.take k); have := HLt16.out; rw [List.length_take] at *; omega)
      have HNk : Hid (nwrL a b = tookL a (ll.take k)) := Lib.hid (by rw [e]; exact HNl.out)
      have hwn := Wn.out.below hb
      have Q := Lib.hid hN; have Wn := Lib.hid hwn; have HTk : Hid ((tookL a (ll.take k)).length ≤ 1000) := Lib.hid (by have := length_tookL a (ll.take k); have := HLt16.out; rw [List.length_take] at *; omega)
      have HLm : Hid (ll.length ≤ 1000) := Lib.hid (by have := HLt16.out; omega)
      have B := Lib.hid (B.out.trans (hb.mono B.out.size)); clear hb hN hwn e
      go_wp2_with fail
      refine (Merge_k _ _ a b ll 0 _ (HA.out.below B.out) (HBb.out.below B.out) HBo.out HMl.out).mono ?_
      rintro e w6 ⟨vm, rfl, hm, hb6⟩
      have Wn := Lib.hid (Wn.out.below hb6)
      have Q := Lib.hid (Q.out.below hb6)
      have B := Lib.hid (B.out.trans (hb6.mono B.out.size))
      have M := Lib.hid hm
      clear hb6 hm
      go_wp2_with fail
      refine (Error_k 0 _ (HG.out.below B.out HZ.out)).mono ?_
      rintro e w7 ⟨rfl, hb7⟩
      have Wn := Lib.hid (Wn.out.below hb7)
      have Q := Lib.hid (Q.out.below hb7)
      have M := Lib.hid (M.out.below hb7)
      have B := Lib.hid (B.out.trans (hb7.mono B.out.size))
      clear hb7
      go_wp2_with fail
      refine (Newer_k _ _ a b (tookL a (ll.take k)) 0 _ (HA.out.below B.out) (HBb.out.below B.out) HBo.out HNk.out).mono ?_
      rintro e w8 ⟨vn, rfl, hn, hb8⟩
      have Wn := Lib.hid (Wn.out.below hb8)
      have Q := Lib.hid (Q.out.below hb8)
      have M := Lib.hid (M.out.below hb8)
      have B := Lib.hid (B.out.trans (hb8.mono B.out.size))
      have N := Lib.hid hn
      clear hb8 hn
      go_wp2_with fail
      refine (Error_k 0 _ (HG.out.below B.out HZ.out)).mono ?_
      rintro e w9 ⟨rfl, hb9⟩
      have Wn := Lib.hid (Wn.out.below hb9)
      have Q := Lib.hid (Q.out.below hb9)
      have M := Lib.hid (M.out.below hb9)
      have N := Lib.hid (N.out.below hb9)
      have B := Lib.hid (B.out.trans (hb9.mono B.out.size))
      clear hb9
      go_wp2_with fail
      refine (Members_v _ _ ll ll _ M.out Wn.out HLm.out rfl).mono ?_
      rintro e w10 ⟨rfl, hb10⟩
      have Wn := Lib.hid (Wn.out.below hb10)
      have Q := Lib.hid (Q.out.below hb10)
      have M := Lib.hid (M.out.below hb10)
      have N := Lib.hid (N.out.below hb10)
      have B := Lib.hid (B.out.trans (hb10.mono B.out.size))
      clear hb10
      go_wp2_with fail
      refine (Members_v _ _ (tookL a (ll.take k)) (tookL a (ll.take k)) _ N.out Q.out HTk.out rfl).mono ?_
      rintro e w11 ⟨rfl, hb11⟩
      have Wn := Lib.hid (Wn.out.below hb11)
      have Q := Lib.hid (Q.out.below hb11)
      have M := Lib.hid (M.out.below hb11)
      have N := Lib.hid (N.out.below hb11)
      have B := Lib.hid (B.out.trans (hb11.mono B.out.size))
      clear hb11
      go_wp2_with fail
      go_loopw [24, 25] (fun o i wr => ∃ (k cc : Nat) (A' : Option Addr), k ≤ n ∧ i = .int .i64 k ∧ o = .slice A' (aliveL (a.take k)).length cc ∧ wr.ownsRow w11.heap.size 3 1 (.slice A' (aliveL (a.take k)).length cc) (aliveL (a.take k)).length (icells (aliveL (a.take k))) ∧ Below w11.heap.size w11 wr) (fun _ i _ => n - (intOf i).toNat)
      case atStart => exact ⟨0, 0, none, by omega, rfl, rfl, World.ownsRow_nil _ _ _ _, Below.refl _ _⟩
      case round =>
        obtain ⟨k, cc, A', hk, rfl, rfl, hown, hb⟩ := hrel
        have hlt' := hown.lt
        have HOw := Lib.hid hown; have HLt := Lib.hid hlt'; clear hown hlt'
        by_cases hlt : k < n
        · obtain ⟨bk, off, m, hB, hblk, hm, e1, e2, e3⟩ := HR.out.at_ (B.out.trans (hb.mono B.out.size)) (k := k) (by rw [HL.out]; omega)
          subst hB
          have hsn := aliveL_snoc a k m hm
          clear hm
          have hle := length_aliveL (a.take k)
          rw [List.length_take] at hle
          have HLe : Hid ((aliveL (a.take k)).length ≤ 32) := Lib.hid (by omega)
          clear hle
          have HB := Lib.hid hb; clear hb
          have HSz : Hid (w11.heap.size ≤ wr.heap.size) := Lib.hid HB.out.size
          have HSn := Lib.hid hsn; clear hsn
          cases hu : m.up with
          | true =>
            have HU := Lib.hid hu
            rw [hu] at e3
            clear hu
            have HO5 : Hid ((wr.alloc (.cells #[.int .i64 m.node] 3)).ownsRow _ _ _ _ _ _) := Lib.hid (own_below HOw.out ((Below.refl wr.heap.size wr).alloc (Nat.le_refl _) (.cells #[.int .i64 m.node] 3)))
            have HC5 : Hid (∀ j u, [Value.int .i64 m.node][j]? = some u → (wr.alloc (.cells #[.int .i64 m.node] 3)).cell? ((⟨wr.heap.size, 0, none⟩ : Addr).add j) = some u) := Lib.hid (one_new _ _ _ _ rfl)
            go_wp2_with (at_builtin; refine wpList_append_own _ rfl _ _ 36 rfl w11.heap.size 3 i3 _ 1 8 Tryd.underlying36 hi3 hy0 hy1 hy2 rfl (by decide) _ _ _ rfl HO5.out ⟨wr.heap.size, 0, none⟩ 1 1 [.int .i64 m.node] rfl rfl HC5.out (by simp [Value.oneCell']) (by have := HLe.out; unfold maxLen; omega) (by have := HLe.out; omega) (le_alloc HSz.out) ?_; intro v' wx hown5 hgr5 _)
            obtain ⟨A5, c5, hv5⟩ := own_slice hown5
            have e5 : aliveL (a.take (k + 1)) = aliveL (a.take k) ++ [m.node] := by rw [HSn.out, HU.out]; simp
            have e6 : (aliveL (a.take k)).length + 1 = (aliveL (a.take (k + 1))).length := by rw [e5]; simp
            have e7 : icells (aliveL (a.take k)) ++ [.int .i64 m.node] = icells (aliveL (a.take (k + 1))) := by rw [e5]; simp [icells]
            rw [e7, e6] at hown5
            rw [e6] at hv5
            have H5 := Lib.hid hown5; have HG5 := Lib.hid hgr5; have HV5 := Lib.hid hv5
            clear hown5 hgr5 hv5 e5 e6 e7
            rw [HV5.out]
            go_wp2
            go_roundw
            case rel => exact ⟨k + 1, c5, A5, by omega, by go_num, rfl, by rw [← HV5.out]; exact H5.out, (HB.out.alloc HSz.out _).grown HG5.out (le_alloc HSz.out) (fun j hj => (HLt.out j hj).1)⟩
            case measure => simp [intOf]; omega
          | false =>
            have HU := Lib.hid hu
            rw [hu] at e3
            clear hu
            go_wp2
            go_roundw
            case rel => exact ⟨k + 1, cc, A', by omega, by go_num, by rw [HSn.out, HU.out]; simp, by rw [HSn.out, HU.out]; simpa using HOw.out, HB.out⟩
            case measure => simp [intOf]; omega
        · have e : a.take k = a := List.take_of_length_le (by rw [HL.out]; omega)
          have hK := SlI.own HOw.out
          have hlK : (aliveL (a.take k)).length ≤ 1000 := by rw [e]; have := length_aliveL a; have := HL.out; omega
          have HAk : Hid (alvL a = aliveL (a.take k)) := Lib.hid (by rw [e]; exact HAl.out)
          have K := Lib.hid hK; have HKl := Lib.hid hlK; have B := Lib.hid (B.out.trans (hb.mono B.out.size)); clear hb hK hlK e
          go_wp2_with fail
          refine (Alive_k _ a (aliveL (a.take k)) 0 _ (HA.out.below B.out) H1.out HAk.out).mono ?_
          rintro e w12 ⟨vl, rfl, hl, hb12⟩
          have K := Lib.hid (K.out.below hb12)
          have B := Lib.hid (B.out.trans (hb12.mono B.out.size))
          have L := Lib.hid hl
          clear hb12 hl
          go_wp2_with fail
          refine (Error_k 0 _ (HG.out.below B.out HZ.out)).mono ?_
          rintro e w13 ⟨rfl, hb13⟩
          have K := Lib.hid (K.out.below hb13)
          have L := Lib.hid (L.out.below hb13)
          have B := Lib.hid (B.out.trans (hb13.mono B.out.size))
          clear hb13
          go_wp2_with fail
          refine (Ints_s _ _ (aliveL (a.take k)) _ L.out K.out HKl.out).mono ?_
          rintro e w14 ⟨rfl, hb14⟩
          have B := Lib.hid (B.out.trans (hb14.mono B.out.size))
          clear hb14
          by_cases h0 : nd < 0
          · have HBe : Hid (bmpE a nd = 1) := Lib.hid (by rw [bmpE, if_neg (by simpa using H1.out), if_pos (by omega)])
            have HBl : Hid (bmpL a nd up = []) := Lib.hid (by rw [bmpL, HBe.out, if_neg (by decide)])
            go_wp2_with fail
            refine (Bump_k _ a [] nd up 1 _ (HA.out.below B.out) HBe.out HBl.out).mono ?_
            rintro e w15 ⟨vt, rfl, ht, hb15⟩
            have B := Lib.hid (B.out.trans (hb15.mono B.out.size))
            have T := Lib.hid ht
            clear hb15 ht
            go_wp2_with fail
            refine (Error_k 1 _ (HG.out.below B.out HZ.out)).mono ?_
            rintro e w16 ⟨rfl, hb16⟩
            have T := Lib.hid (T.out.below hb16)
            have B := Lib.hid (B.out.trans (hb16.mono B.out.size))
            clear hb16
            go_wp2_with fail
            refine (Members_v _ _ [] [] _ T.out (SlR.nil _) (by simp) rfl).mono ?_
            rintro e w17 ⟨rfl, hb17⟩
            have B := Lib.hid (B.out.trans (hb17.mono B.out.size))
            clear hb17
            go_wp2
            go_ret
            exact ⟨rfl, B.out⟩
          · by_cases h15 : 15 < nd
            · have HBe : Hid (bmpE a nd = 1) := Lib.hid (by rw [bmpE, if_neg (by simpa using H1.out), if_pos (by omega)])
              have HBl : Hid (bmpL a nd up = []) := Lib.hid (by rw [bmpL, HBe.out, if_neg (by decide)])
              have h0' : decide (nd < 0) = false := by simp; omega
              go_wp2_with fail
              refine (Bump_k _ a [] nd up 1 _ (HA.out.below B.out) HBe.out HBl.out).mono ?_
              rintro e w15 ⟨vt, rfl, ht, hb15⟩
              have B := Lib.hid (B.out.trans (hb15.mono B.out.size))
              have T := Lib.hid ht
              clear hb15 ht
              go_wp2_with fail
              refine (Error_k 1 _ (HG.out.below B.out HZ.out)).mono ?_
              rintro e w16 ⟨rfl, hb16⟩
              have T := Lib.hid (T.out.below hb16)
              have B := Lib.hid (B.out.trans (hb16.mono B.out.size))
              clear hb16
              go_wp2_with fail
              refine (Members_v _ _ [] [] _ T.out (SlR.nil _) (by simp) rfl).mono ?_
              rintro e w17 ⟨rfl, hb17⟩
              have B := Lib.hid (B.out.trans (hb17.mono B.out.size))
              clear hb17
              go_wp2
              go_ret
              exact ⟨rfl, B.out⟩
            · have h0' : decide (nd < 0) = false := by simp; omega
              have h15' : decide (15 < nd) = false := by simp; omega
              obtain ⟨x, hx⟩ : ∃ x, x = getZ a nd := ⟨_, rfl⟩
              obtain ⟨p, hp⟩ : ∃ p, p = (get a nd).isSome := ⟨_, rfl⟩
              have hv := getZ_ver HVa.out nd
              rw [← hx] at hv
              have HVo : Hid (verOf a nd = x.ver + 1) := Lib.hid (by rw [hx]; exact verOf_getZ a nd)
              have g1 : IntKind.i64.wrap (x.ver + 1) = x.ver + 1 := IntWalk.i64_in _ (by omega)
              have HX := Lib.hid hx; have HP := Lib.hid hp; have HVx := Lib.hid hv; clear hx hp hv
              go_wp2_with fail
              refine (Member_any A n c a nd _ HL.out ((HR.out.below B.out).more B.out.size) (by omega) x p HX.out HP.out).mono ?_
              rintro e w15 ⟨rfl, hb⟩
              have B := Lib.hid (B.out.trans (hb.mono B.out.size)); clear hb
              by_cases hf : 1000000 < x.ver + 1
              · have HBe : Hid (bmpE a nd = 4) := Lib.hid (by rw [bmpE, if_neg (by simpa using H1.out), if_neg (by omega), if_pos (by rw [HVo.out]; exact hf)])
                have HBl : Hid (bmpL a nd up = []) := Lib.hid (by rw [bmpL, HBe.out, if_neg (by decide)])
                go_wp2_with fail
                have B := Lib.hid (B.out.alloc B.out.size (.cells #[.int .i64 nd, .int .i64 (x.ver + 1), .bool up] 30))
                refine (Bump_k _ a [] nd up 4 _ (HA.out.below B.out) HBe.out HBl.out).mono ?_
                rintro e w16 ⟨vt, rfl, ht, hb16⟩
                have B := Lib.hid (B.out.trans (hb16.mono B.out.size))
                have T := Lib.hid ht
                clear hb16 ht
                go_wp2_with fail
                refine (Error_k 4 _ (HG.out.below B.out HZ.out)).mono ?_
                rintro e w17 ⟨rfl, hb17⟩
                have T := Lib.hid (T.out.below hb17)
                have B := Lib.hid (B.out.trans (hb17.mono B.out.size))
                clear hb17
                go_wp2_with fail
                refine (Members_v _ _ [] [] _ T.out (SlR.nil _) (by simp) rfl).mono ?_
                rintro e w18 ⟨rfl, hb18⟩
                have B := Lib.hid (B.out.trans (hb18.mono B.out.size))
                clear hb18
                go_wp2
                go_ret
                exact ⟨rfl, B.out⟩
              · have HBe : Hid (bmpE a nd = 0) := Lib.hid (by rw [bmpE, if_neg (by simpa using H1.out), if_neg (by omega), if_neg (by rw [HVo.out]; exact hf)])
                have HBl : Hid (bmpL a nd up = RL a [⟨nd, x.ver + 1, up⟩] 16) := Lib.hid (by rw [bmpL, HBe.out, if_pos rfl, ← HVo.out, RL_one HVa.out (by omega) (by omega) (by rw [HVo.out]; exact hf)])
                go_wp2_with fail
                have HS : Hid (SlR ((w15.alloc (.cells #[.int .i64 nd, .int .i64 (x.ver + 1), .bool up] 30)).alloc (.cells #[.int .i64 nd, .int .i64 (x.ver + 1), .bool up] 30)) (.slice (some ⟨w15.heap.size + 1, 0, none⟩) 1 1) [⟨nd, x.ver + 1, up⟩]) := Lib.hid (SlR.single (by simp) (by simp) (by simp) (by simp))
                have B := Lib.hid ((B.out.alloc B.out.size (.cells #[.int .i64 nd, .int .i64 (x.ver + 1), .bool up] 30)).alloc (by have := B.out.size; simp; omega) (.cells #[.int .i64 nd, .int .i64 (x.ver + 1), .bool up] 30))
                have HTl : Hid ((RL a [⟨nd, x.ver + 1, up⟩] 16).length ≤ 1000) := Lib.hid (by have := RL_length a [⟨nd, x.ver + 1, up⟩] 16; omega)
                refine (RMerge_s _ _ a [⟨nd, x.ver + 1, up⟩] _ (HA.out.below B.out) HS.out (by rw [HL.out]; omega) (by simp)).mono ?_
                rintro e w16 ⟨vr, rfl, hr, hb16⟩
                have B := Lib.hid (B.out.trans (hb16.mono B.out.size))
                have R := Lib.hid hr
                clear hb16 hr
                go_wp2_with fail
                refine (Bump_k _ a (RL a [⟨nd, x.ver + 1, up⟩] 16) nd up 0 _ (HA.out.below B.out) HBe.out HBl.out).mono ?_
                rintro e w17 ⟨vt, rfl, ht, hb17⟩
                have R := Lib.hid (R.out.below hb17)
                have B := Lib.hid (B.out.trans (hb17.mono B.out.size))
                have T := Lib.hid ht
                clear hb17 ht
                go_wp2_with fail
                refine (Error_k 0 _ (HG.out.below B.out HZ.out)).mono ?_
                rintro e w18 ⟨rfl, hb18⟩
                have R := Lib.hid (R.out.below hb18)
                have T := Lib.hid (T.out.below hb18)
                have B := Lib.hid (B.out.trans (hb18.mono B.out.size))
                clear hb18
                go_wp2_with fail
                refine (Members_v _ _ (RL a [⟨nd, x.ver + 1, up⟩] 16) (RL a [⟨nd, x.ver + 1, up⟩] 16) _ T.out R.out HTl.out rfl).mono ?_
                rintro e w19 ⟨rfl, hb19⟩
                have R := Lib.hid (R.out.below hb19)
                have B := Lib.hid (B.out.trans (hb19.mono B.out.size))
                clear hb19
                go_wp2
                go_ret
                exact ⟨rfl, B.out⟩
end Go.Proofs.YtachfnmbhhppbaaDoor
