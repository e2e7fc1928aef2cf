/- The walk of ViewMerges, the second view bad. -/
import Derived.Test.YtachfnmbhhppbaaDoorY
namespace Go.Proofs.YtachfnmbhhppbaaDoor
set_option maxRecDepth 100000
open Go.RowKit
set_option maxHeartbeats 4000000 in
theorem merges_half (A : Option Addr) (n c : Nat) (vb : Value) (a b : List Mem) (nd : Int) (up : Bool) (w : World) (ha : SlR w (.slice A n c) a) (hb : SlR w vb b) (hg : Gl w) (eb : Int) (h1 : viewErr a = 0) (h2 : viewErr b = eb) (h0 : eb ≠ 0) :
    Calls Tryd.prog 3 #[.slice A n c, vb, .int .i64 nd, .bool up] w fun e w' => e = .returned (.bool true) ∧ Below w.heap.size w w' := by
  have HA := Lib.hid ha; have HBb := Lib.hid hb; have HG := Lib.hid hg; have HZ := Lib.hid hg.lt
  clear ha hb hg

  have hne : (eb == 0) = false := by simpa using h0
  have H1 := Lib.hid h1; have H2 := Lib.hid h2; have H0 := Lib.hid h0; clear h1 h2 h0
  obtain ⟨A1, n1, c1, hAe, hL, h3, hR, h5⟩ := HA.out
  cases hAe
  have HL := Lib.hid hL; have HR := Lib.hid hR; clear hL hR h3 h5
  have HVa : Hid (Valid a) := Lib.hid ((viewErr_zero a).1 H1.out)
  have hn16 : n ≤ 16 := by have := valid_length HVa.out; have := HL.out; omega
  obtain ⟨i3, hi3, hy0, hy1, hy2⟩ := info_parts info3
  have HAl : Hid (alvL a = aliveL a) := Lib.hid (by rw [alvL, if_pos H1.out])
  have HBo : Hid (bothErr a b = eb) := Lib.hid (by rw [bothErr, if_pos H1.out, H2.out])
  have HMl : Hid (mrgL a b = []) := Lib.hid (by rw [mrgL, if_neg (by rw [HBo.out]; exact H0.out)])
  have HNl : Hid (nwrL a b = []) := Lib.hid (by rw [nwrL, if_neg (by rw [HBo.out]; exact H0.out)])
  have B : Hid (Below w.heap.size w w) := Lib.hid (Below.refl _ _)
  go_enter Tryd.func3, Tryd.ntmps3
  go_wp2_with fail
  refine (View_k _ a 0 _ (HA.out.below B.out) H1.out).mono ?_
  rintro e w1 ⟨rfl, hb1⟩
  have B := Lib.hid (B.out.trans (hb1.mono B.out.size))
  clear hb1
  go_wp2_with fail
  refine (Check_k _ a 0 _ (HA.out.below B.out) H1.out).mono ?_
  rintro e w2 ⟨rfl, hb2⟩
  have B := Lib.hid (B.out.trans (hb2.mono B.out.size))
  clear hb2
  go_wp2_with fail
  refine (Error_k 0 _ (HG.out.below B.out HZ.out)).mono ?_
  rintro e w3 ⟨rfl, hb3⟩
  have B := Lib.hid (B.out.trans (hb3.mono B.out.size))
  clear hb3
  go_wp2_with fail
  refine (View_k _ b eb _ (HBb.out.below B.out) H2.out).mono ?_
  rintro e w4 ⟨rfl, hb4⟩
  have B := Lib.hid (B.out.trans (hb4.mono B.out.size))
  clear hb4
  go_wp2_with fail
  refine (Merge_k _ _ a b [] eb _ (HA.out.below B.out) (HBb.out.below B.out) HBo.out HMl.out).mono ?_
  rintro e w5 ⟨vm, rfl, hm, hb5⟩
  have B := Lib.hid (B.out.trans (hb5.mono B.out.size))
  have M := Lib.hid hm
  clear hb5 hm
  go_wp2_with fail
  refine (Error_k eb _ (HG.out.below B.out HZ.out)).mono ?_
  rintro e w6 ⟨rfl, hb6⟩
  have M := Lib.hid (M.out.below hb6)
  have B := Lib.hid (B.out.trans (hb6.mono B.out.size))
  clear hb6
  go_wp2_with fail
  refine (Newer_k _ _ a b [] eb _ (HA.out.below B.out) (HBb.out.below B.out) HBo.out HNl.out).mono ?_
  rintro e w7 ⟨vn, rfl, hn, hb7⟩
  have M := Lib.hid (M.out.below hb7)
  have B := Lib.hid (B.out.trans (hb7.mono B.out.size))
  have N := Lib.hid hn
  clear hb7 hn
  go_wp2_with fail
  refine (Error_k eb _ (HG.out.below B.out HZ.out)).mono ?_
  rintro e w8 ⟨rfl, hb8⟩
  have M := Lib.hid (M.out.below hb8)
  have N := Lib.hid (N.out.below hb8)
  have B := Lib.hid (B.out.trans (hb8.mono B.out.size))
  clear hb8
  go_wp2_with fail
  refine (Members_v _ _ [] [] _ M.out (SlR.nil _) (by simp) rfl).mono ?_
  rintro e w9 ⟨rfl, hb9⟩
  have M := Lib.hid (M.out.below hb9)
  have N := Lib.hid (N.out.below hb9)
  have B := Lib.hid (B.out.trans (hb9.mono B.out.size))
  clear hb9
  go_wp2_with fail
  refine (Members_v _ _ [] [] _ N.out (SlR.nil _) (by simp) rfl).mono ?_
  rintro e w10 ⟨rfl, hb10⟩
  have M := Lib.hid (M.out.below hb10)
  have N := Lib.hid (N.out.below hb10)
  have B := Lib.hid (B.out.trans (hb10.mono B.out.size))
  clear hb10
  go_wp2_with fail
  go_loopw [24, 25] (fun o i wr => ∃ (k cc : Nat) (A' : Option Addr), k ≤ n ∧ i = .int .i64 k ∧ o = .slice A' (aliveL (a.take k)).length cc ∧ wr.ownsRow w10.heap.size 3 1 (.slice A' (aliveL (a.take k)).length cc) (aliveL (a.take k)).length (icells (aliveL (a.take k))) ∧ Below w10.heap.size w10 wr) (fun _ i _ => n - (intOf i).toNat)
  case atStart => exact ⟨0, 0, none, by omega, rfl, rfl, World.ownsRow_nil _ _ _ _, Below.refl _ _⟩
  case round =>
    obtain ⟨k, cc, A', hk, rfl, rfl, hown, hb⟩ := hrel
    have hlt' := hown.lt
    have HOw := Lib.hid hown; have HLt := Lib.hid hlt'; clear hown hlt'
    by_cases hlt : k < n
    · obtain ⟨bk, off, m, hB, hblk, hm, e1, e2, e3⟩ := HR.out.at_ (B.out.trans (hb.mono B.out.size)) (k := k) (by rw [HL.out]; omega)
      subst hB
      have hsn := aliveL_snoc a k m hm
      clear hm
      have hle := length_aliveL (a.take k)
      rw [List.length_take] at hle
      have HLe : Hid ((aliveL (a.take k)).length ≤ 32) := Lib.hid (by omega)
      clear hle
      have HB := Lib.hid hb; clear hb
      have HSz : Hid (w10.heap.size ≤ wr.heap.size) := Lib.hid HB.out.size
      have HSn := Lib.hid hsn; clear hsn
      cases hu : m.up with
      | true =>
        have HU := Lib.hid hu
        rw [hu] at e3
        clear hu
        have HO5 : Hid ((wr.alloc (.cells #[.int .i64 m.node] 3)).ownsRow _ _ _ _ _ _) := Lib.hid (own_below HOw.out ((Below.refl wr.heap.size wr).alloc (Nat.le_refl _) (.cells #[.int .i64 m.node] 3)))
        have HC5 : Hid (∀ j u, [Value.int .i64 m.node][j]? = some u → (wr.alloc (.cells #[.int .i64 m.node] 3)).cell? ((⟨wr.heap.size, 0, none⟩ : Addr).add j) = some u) := Lib.hid (one_new _ _ _ _ rfl)
        go_wp2_with (at_builtin; refine wpList_append_own _ rfl _ _ 36 rfl w10.heap.size 3 i3 _ 1 8 Tryd.underlying36 hi3 hy0 hy1 hy2 rfl (by decide) _ _ _ rfl HO5.out ⟨wr.heap.size, 0, none⟩ 1 1 [.int .i64 m.node] rfl rfl HC5.out (by simp [Value.oneCell']) (by have := HLe.out; unfold maxLen; omega) (by have := HLe.out; omega) (le_alloc HSz.out) ?_; intro v' wx hown5 hgr5 _)
        obtain ⟨A5, c5, hv5⟩ := own_slice hown5
        have e5 : aliveL (a.take (k + 1)) = aliveL (a.take k) ++ [m.node] := by rw [HSn.out, HU.out]; simp
        have e6 : (aliveL (a.take k)).length + 1 = (aliveL (a.take (k + 1))).length := by rw [e5]; simp
        have e7 : icells (aliveL (a.take k)) ++ [.int .i64 m.node] = icells (aliveL (a.take (k + 1))) := by rw [e5]; simp [icells]
        rw [e7, e6] at hown5
        rw [e6] at hv5
        have H5 := Lib.hid hown5; have HG5 := Lib.hid hgr5; have HV5 := Lib.hid hv5
        clear hown5 hgr5 hv5 e5 e6 e7
        rw [HV5.out]
        go_wp2
        go_roundw
        case rel => exact ⟨k + 1, c5, A5, by omega, by go_num, rfl, by rw [← HV5.out]; exact H5.out, (HB.out.alloc HSz.out _).grown HG5.out (le_alloc HSz.out) (fun j hj => (HLt.out j hj).1)⟩
        case measure => simp [intOf]; omega
      | false =>
        have HU := Lib.hid hu
        rw [hu] at e3
        clear hu
        go_wp2
        go_roundw
        case rel => exact ⟨k + 1, cc, A', by omega, by go_num, by rw [HSn.out, HU.out]; simp, by rw [HSn.out, HU.out]; simpa using HOw.out, HB.out⟩
        case measure => simp [intOf]; omega
    · have e : a.take k = a := List.take_of_length_le (by rw [HL.out]; omega)
      have hK := SlI.own HOw.out
      have hlK : (aliveL (a.take k)).length ≤ 1000 := by rw [e]; have := length_aliveL a; have := HL.out; omega
      have HAk : Hid (alvL a = aliveL (a.take k)) := Lib.hid (by rw [e]; exact HAl.out)
      have K := Lib.hid hK; have HKl := Lib.hid hlK; have B := Lib.hid (B.out.trans (hb.mono B.out.size)); clear hb hK hlK e
      go_wp2_with fail
      refine (Alive_k _ a (aliveL (a.take k)) 0 _ (HA.out.below B.out) H1.out HAk.out).mono ?_
      rintro e w11 ⟨vl, rfl, hl, hb11⟩
      have K := Lib.hid (K.out.below hb11)
      have B := Lib.hid (B.out.trans (hb11.mono B.out.size))
      have L := Lib.hid hl
      clear hb11 hl
      go_wp2_with fail
      refine (Error_k 0 _ (HG.out.below B.out HZ.out)).mono ?_
      rintro e w12 ⟨rfl, hb12⟩
      have K := Lib.hid (K.out.below hb12)
      have L := Lib.hid (L.out.below hb12)
      have B := Lib.hid (B.out.trans (hb12.mono B.out.size))
      clear hb12
      go_wp2_with fail
      refine (Ints_s _ _ (aliveL (a.take k)) _ L.out K.out HKl.out).mono ?_
      rintro e w13 ⟨rfl, hb13⟩
      have B := Lib.hid (B.out.trans (hb13.mono B.out.size))
      clear hb13
      by_cases h0 : nd < 0
      · have HBe : Hid (bmpE a nd = 1) := Lib.hid (by rw [bmpE, if_neg (by simpa using H1.out), if_pos (by omega)])
        have HBl : Hid (bmpL a nd up = []) := Lib.hid (by rw [bmpL, HBe.out, if_neg (by decide)])
        go_wp2_with fail
        refine (Bump_k _ a [] nd up 1 _ (HA.out.below B.out) HBe.out HBl.out).mono ?_
        rintro e w14 ⟨vt, rfl, ht, hb14⟩
        have B := Lib.hid (B.out.trans (hb14.mono B.out.size))
        have T := Lib.hid ht
        clear hb14 ht
        go_wp2_with fail
        refine (Error_k 1 _ (HG.out.below B.out HZ.out)).mono ?_
        rintro e w15 ⟨rfl, hb15⟩
        have T := Lib.hid (T.out.below hb15)
        have B := Lib.hid (B.out.trans (hb15.mono B.out.size))
        clear hb15
        go_wp2_with fail
        refine (Members_v _ _ [] [] _ T.out (SlR.nil _) (by simp) rfl).mono ?_
        rintro e w16 ⟨rfl, hb16⟩
        have B := Lib.hid (B.out.trans (hb16.mono B.out.size))
        clear hb16
        go_wp2
        go_ret
        exact ⟨rfl, B.out⟩
      · by_cases h15 : 15 < nd
        · have HBe : Hid (bmpE a nd = 1) := Lib.hid (by rw [bmpE, if_neg (by simpa using H1.out), if_pos (by omega)])
          have HBl : Hid (bmpL a nd up = []) := Lib.hid (by rw [bmpL, HBe.out, if_neg (by decide)])
          have h0' : decide (nd < 0) = false := by simp; omega
          go_wp2_with fail
          refine (Bump_k _ a [] nd up 1 _ (HA.out.below B.out) HBe.out HBl.out).mono ?_
          rintro e w14 ⟨vt, rfl, ht, hb14⟩
          have B := Lib.hid (B.out.trans (hb14.mono B.out.size))
          have T := Lib.hid ht
          clear hb14 ht
          go_wp2_with fail
          refine (Error_k 1 _ (HG.out.below B.out HZ.out)).mono ?_
          rintro e w15 ⟨rfl, hb15⟩
          have T := Lib.hid (T.out.below hb15)
          have B := Lib.hid (B.out.trans (hb15.mono B.out.size))
          clear hb15
          go_wp2_with fail
          refine (Members_v _ _ [] [] _ T.out (SlR.nil _) (by simp) rfl).mono ?_
          rintro e w16 ⟨rfl, hb16⟩
          have B := Lib.hid (B.out.trans (hb16.mono B.out.size))
          clear hb16
          go_wp2
          go_ret
          exact ⟨rfl, B.out⟩
        · have h0' : decide (nd < 0) = false := by simp; omega
          have h15' : decide (15 < nd) = false := by simp; omega
          obtain ⟨x, hx⟩ : ∃ x, x = getZ a nd := ⟨_, rfl⟩
          obtain ⟨p, hp⟩ : ∃ p, p = (get a nd).isSome := ⟨_, rfl⟩
          have hv := getZ_ver HVa.out nd
          rw [← hx] at hv
          have HVo : Hid (verOf a nd = x.ver + 1) := Lib.hid (by rw [hx]; exact verOf_getZ a nd)
          have g1 : IntKind.i64.wrap (x.ver + 1) = x.ver + 1 := IntWalk.i64_in _ (by omega)
          have HX := Lib.hid hx; have HP := Lib.hid hp; have HVx := Lib.hid hv; clear hx hp hv
          go_wp2_with fail
          refine (Member_any A n c a nd _ HL.out ((HR.out.below B.out).more B.out.size) (by omega) x p HX.out HP.out).mono ?_
          rintro e w14 ⟨rfl, hb⟩
          have B := Lib.hid (B.out.trans (hb.mono B.out.size)); clear hb
          by_cases hf : 1000000 < x.ver + 1
          · have HBe : Hid (bmpE a nd = 4) := Lib.hid (by rw [bmpE, if_neg (by simpa using H1.out), if_neg (by omega), if_pos (by rw [HVo.out]; exact hf)])
            have HBl : Hid (bmpL a nd up = []) := Lib.hid (by rw [bmpL, HBe.out, if_neg (by decide)])
            go_wp2_with fail
            have B := Lib.hid (B.out.alloc B.out.size (.cells #[.int .i64 nd, .int .i64 (x.ver + 1), .bool up] 30))
            refine (Bump_k _ a [] nd up 4 _ (HA.out.below B.out) HBe.out HBl.out).mono ?_
            rintro e w15 ⟨vt, rfl, ht, hb15⟩
            have B := Lib.hid (B.out.trans (hb15.mono B.out.size))
            have T := Lib.hid ht
            clear hb15 ht
            go_wp2_with fail
            refine (Error_k 4 _ (HG.out.below B.out HZ.out)).mono ?_
            rintro e w16 ⟨rfl, hb16⟩
            have T := Lib.hid (T.out.below hb16)
            have B := Lib.hid (B.out.trans (hb16.mono B.out.size))
            clear hb16
            go_wp2_with fail
            refine (Members_v _ _ [] [] _ T.out (SlR.nil _) (by simp) rfl).mono ?_
            rintro e w17 ⟨rfl, hb17⟩
            have B := Lib.hid (B.out.trans (hb17.mono B.out.size))
            clear hb17
            go_wp2
            go_ret
            exact ⟨rfl, B.out⟩
          · have HBe : Hid (bmpE a nd = 0) := Lib.hid (by rw [bmpE, if_neg (by simpa using H1.out), if_neg (by omega), if_neg (by rw [HVo.out]; exact hf)])
            have HBl : Hid (bmpL a nd up = RL a [⟨nd, x.ver + 1, up⟩] 16) := Lib.hid (by rw [bmpL, HBe.out, if_pos rfl, ← HVo.out, RL_one HVa.out (by omega) (by omega) (by rw [HVo.out]; exact hf)])
            go_wp2_with fail
            have HS : Hid (SlR ((w14.alloc (.cells #[.int .i64 nd, .int .i64 (x.ver + 1), .bool up] 30)).alloc (.cells #[.int .i64 nd, .int .i64 (x.ver + 1), .bool up] 30)) (.slice (some ⟨w14.heap.size + 1, 0, none⟩) 1 1) [⟨nd, x.ver + 1, up⟩]) := Lib.hid (SlR.single (by simp) (by simp) (by simp) (by simp))
            have B := Lib.hid ((B.out.alloc B.out.size (.cells #[.int .i64 nd, .int .i64 (x.ver + 1), .bool up] 30)).alloc (by have := B.out.size; simp; omega) (.cells #[.int .i64 nd, .int .i64 (x.ver + 1), .bool up] 30))
            have HTl : Hid ((RL a [⟨nd, x.ver + 1, up⟩] 16).length ≤ 1000) := Lib.hid (by have := RL_length a [⟨nd, x.ver + 1, up⟩] 16; omega)
            refine (RMerge_s _ _ a [⟨nd, x.ver + 1, up⟩] _ (HA.out.below B.out) HS.out (by rw [HL.out]; omega) (by simp)).mono ?_
            rintro e w15 ⟨vr, rfl, hr, hb15⟩
            have B := Lib.hid (B.out.trans (hb15.mono B.out.size))
            have R := Lib.hid hr
            clear hb15 hr
            go_wp2_with fail
            refine (Bump_k _ a (RL a [⟨nd, x.ver + 1, up⟩] 16) nd up 0 _ (HA.out.below B.out) HBe.out HBl.out).mono ?_
            rintro e w16 ⟨vt, rfl, ht, hb16⟩
            have R := Lib.hid (R.out.below hb16)
            have B := Lib.hid (B.out.trans (hb16.mono B.out.size))
            have T := Lib.hid ht
            clear hb16 ht
            go_wp2_with fail
            refine (Error_k 0 _ (HG.out.below B.out HZ.out)).mono ?_
            rintro e w17 ⟨rfl, hb17⟩
            have R := Lib.hid (R.out.below hb17)
            have T := Lib.hid (T.out.below hb17)
            have B := Lib.hid (B.out.trans (hb17.mono B.out.size))
            clear hb17
            go_wp2_with fail
            refine (Members_v _ _ (RL a [⟨nd, x.ver + 1, up⟩] 16) (RL a [⟨nd, x.ver + 1, up⟩] 16) _ T.out R.out HTl.out rfl).mono ?_
            rintro e w18 ⟨rfl, hb18⟩
            have R := Lib.hid (R.out.below hb18)
            have B := Lib.hid (B.out.trans (hb18.mono B.out.size))
            clear hb18
            go_wp2
            go_ret
            exact ⟨rfl, B.out⟩
end Go.Proofs.YtachfnmbhhppbaaDoor
