/- The walk of ViewOnce. -/
import Derived.Test.YtachfnmbhhppbaaS
namespace Go.Proofs.Ytachfnmbhhppbaa
open Go.RowKit

theorem fact_m : putL [] (bumpM [] 3 true) = [⟨3, 1, true⟩] := by rw [putL_nil]; rfl
theorem valid_nil : Valid [] := ⟨by simp [Srt], by simp⟩

set_option maxHeartbeats 1000000 in
/-- not both views are right -/
theorem once_bad (va vb vc : Value) (a b : List Mem) (w : World) (ha : SlR w va a) (hb : SlR w vb b) (h : ¬ (Valid a ∧ Valid b)) :
    Calls Try.prog 3 #[va, vb, vc] w fun e w' => e = .returned (.bool true) ∧ Below w.heap.size w w' := by
  have HA := Lib.hid ha; have HB := Lib.hid hb; have H := Lib.hid h
  clear ha hb h
  go_enter Try.func3, Try.ntmps3
  go_wp2_with fail
  refine (Bump_v (.slice none 0 0) [] 3 true _ (SlR.nil _) valid_nil (by omega) (by omega) (by intro x hx; cases hx)).mono ?_
  rintro e w1 ⟨r, rfl, hr, hb1⟩
  rw [fact_m] at hr
  obtain ⟨bk, off, c, hrv, hbk, k1, k2, k3⟩ := hr.one
  rw [hrv]
  clear hrv hr
  have B1 := Lib.hid hb1; clear hb1
  go_wp2_with fail
  refine (Merge_x va vb a b _ (HA.out.below B1.out) (HB.out.below B1.out) H.out).mono ?_
  rintro e w2 ⟨k, rfl, hb2⟩
  have hb2' := B1.out.trans (hb2.mono B1.out.size)
  have B2 := Lib.hid hb2'
  have l1 := (hb2.cell (p := ⟨bk, off, none⟩) hbk).trans k1
  clear hb2 hb2'
  go_wp2_with fail
  refine (Merge_x vb va b a _ (HB.out.below B2.out) (HA.out.below B2.out) (fun h => H.out ⟨h.2, h.1⟩)).mono ?_
  rintro e w3 ⟨k', rfl, hb3⟩
  have B3 := Lib.hid (B2.out.trans (hb3.mono B2.out.size)); clear hb3
  go_wp2
  go_ret
  exact ⟨rfl, B3.out⟩

set_option maxHeartbeats 2000000 in
/-- the third is not right -/
theorem once_third (va vb vc : Value) (a b c : List Mem) (w : World) (ha : SlR w va a) (hb : SlR w vb b) (hc : SlR w vc c) (hva : Valid a) (hvb : Valid b) (hvc : ¬ Valid c) :
    Calls Try.prog 3 #[va, vb, vc] w fun e w' => e = .returned (.bool true) ∧ Below w.heap.size w w' := by
  have HA := Lib.hid ha; have HB := Lib.hid hb; have HC := Lib.hid hc; have HVa := Lib.hid hva; have HVb := Lib.hid hvb; have HVc := Lib.hid hvc
  clear ha hb hc hva hvb hvc
  go_enter Try.func3, Try.ntmps3
  go_wp2_with fail
  refine (Bump_v (.slice none 0 0) [] 3 true _ (SlR.nil _) valid_nil (by omega) (by omega) (by intro x hx; cases hx)).mono ?_
  rintro e w1 ⟨r, rfl, hr, hb1⟩
  rw [fact_m] at hr
  obtain ⟨bk, off, cc, hrv, hbk, k1, k2, k3⟩ := hr.one
  rw [hrv]
  clear hrv hr
  have B1 := Lib.hid hb1; clear hb1
  have HL := Lib.hid (valid_length (valid_mergeL HVa.out HVb.out))
  go_wp2_with fail
  refine (Merge_v va vb a b _ (HA.out.below B1.out) (HB.out.below B1.out) HVa.out HVb.out).mono ?_
  rintro e w2 ⟨vab, rfl, hab, hb2⟩
  have l1 := (hb2.cell (p := ⟨bk, off, none⟩) hbk).trans k1
  have B2 := Lib.hid (B1.out.trans (hb2.mono B1.out.size)); clear hb2
  have AB2 := Lib.hid hab; clear hab
  go_wp2_with fail
  refine (Merge_v vb va b a _ (HB.out.below B2.out) (HA.out.below B2.out) HVb.out HVa.out).mono ?_
  rintro e w3 ⟨vba, rfl, hba, hb3⟩
  have AB3 := Lib.hid (AB2.out.below hb3); have BA3 := Lib.hid hba; have B3 := Lib.hid (B2.out.trans (hb3.mono B2.out.size)); clear hb3 hba
  go_wp2_with fail
  refine (Members_v vab vba _ _ _ AB3.out BA3.out (by have := HL.out; omega) (merge_comm HVa.out.1 HVb.out.1)).mono ?_
  rintro e w4 ⟨rfl, hb4⟩
  have AB4 := Lib.hid (AB3.out.below hb4); have B4 := Lib.hid (B3.out.trans (hb4.mono B3.out.size)); clear hb4
  go_wp2_with fail
  refine (Merge_v vab va _ a _ AB4.out (HA.out.below B4.out) (valid_mergeL HVa.out HVb.out) HVa.out).mono ?_
  rintro e w5 ⟨vaa, rfl, haa, hb5⟩
  have AB5 := Lib.hid (AB4.out.below hb5); have AA5 := Lib.hid haa; have B5 := Lib.hid (B4.out.trans (hb5.mono B4.out.size)); clear hb5 haa
  go_wp2_with fail
  refine (Members_v vaa vab _ _ _ AA5.out AB5.out (by rw [merge_again HVa.out.1 HVb.out.1]; have := HL.out; omega) (merge_again HVa.out.1 HVb.out.1)).mono ?_
  rintro e w6 ⟨rfl, hb6⟩
  have AB6 := Lib.hid (AB5.out.below hb6); have B6 := Lib.hid (B5.out.trans (hb6.mono B5.out.size)); clear hb6
  go_wp2_with fail
  refine (Newer_v va vb a b _ (HA.out.below B6.out) (HB.out.below B6.out) HVa.out HVb.out).mono ?_
  rintro e w7 ⟨vn, rfl, hn, hb7⟩
  have AB7 := Lib.hid (AB6.out.below hb7); have N7 := Lib.hid hn; have B7 := Lib.hid (B6.out.trans (hb7.mono B6.out.size)); clear hb7 hn
  go_wp2_with fail
  refine (Merge_v va vn a _ _ (HA.out.below B7.out) N7.out HVa.out (valid_newerL HVb.out)).mono ?_
  rintro e w8 ⟨van, rfl, han, hb8⟩
  have AB8 := Lib.hid (AB7.out.below hb8); have AN8 := Lib.hid han; have B8 := Lib.hid (B7.out.trans (hb8.mono B7.out.size)); clear hb8 han
  go_wp2_with fail
  refine (Members_v van vab _ _ _ AN8.out AB8.out (by rw [merge_newer HVa.out.1 HVb.out.1]; have := HL.out; omega) (merge_newer HVa.out.1 HVb.out.1)).mono ?_
  rintro e w9 ⟨rfl, hb9⟩
  have AB9 := Lib.hid (AB8.out.below hb9); have B9 := Lib.hid (B8.out.trans (hb9.mono B8.out.size)); clear hb9
  go_wp2_with fail
  refine (Merge_x vb vc b c _ (HB.out.below B9.out) (HC.out.below B9.out) (fun h => HVc.out h.2)).mono ?_
  rintro e w10 ⟨k, rfl, hb10⟩
  have B10 := Lib.hid (B9.out.trans (hb10.mono B9.out.size)); clear hb10
  go_wp2_with fail
  refine (Check_x vc c _ (HC.out.below B10.out) HVc.out).mono ?_
  rintro e w11 ⟨k', rfl, hb11⟩
  have B11 := Lib.hid (B10.out.trans (hb11.mono B10.out.size)); clear hb11
  go_wp2
  go_ret
  exact ⟨rfl, B11.out⟩

set_option maxHeartbeats 2000000 in
/-- all are right -/
theorem once_good (va vb vc : Value) (a b c : List Mem) (w : World) (ha : SlR w va a) (hb : SlR w vb b) (hc : SlR w vc c) (hva : Valid a) (hvb : Valid b) (hvc : Valid c) :
    Calls Try.prog 3 #[va, vb, vc] w fun e w' => e = .returned (.bool true) ∧ Below w.heap.size w w' := by
  have HA := Lib.hid ha; have HB := Lib.hid hb; have HC := Lib.hid hc; have HVa := Lib.hid hva; have HVb := Lib.hid hvb; have HVc := Lib.hid hvc
  clear ha hb hc hva hvb hvc
  go_enter Try.func3, Try.ntmps3
  go_wp2_with fail
  refine (Bump_v (.slice none 0 0) [] 3 true _ (SlR.nil _) valid_nil (by omega) (by omega) (by intro x hx; cases hx)).mono ?_
  rintro e w1 ⟨r, rfl, hr, hb1⟩
  rw [fact_m] at hr
  obtain ⟨bk, off, cc, hrv, hbk, k1, k2, k3⟩ := hr.one
  rw [hrv]
  clear hrv hr
  have B1 := Lib.hid hb1; clear hb1
  have HL := Lib.hid (valid_length (valid_mergeL HVa.out HVb.out))
  go_wp2_with fail
  refine (Merge_v va vb a b _ (HA.out.below B1.out) (HB.out.below B1.out) HVa.out HVb.out).mono ?_
  rintro e w2 ⟨vab, rfl, hab, hb2⟩
  have l1 := (hb2.cell (p := ⟨bk, off, none⟩) hbk).trans k1
  have B2 := Lib.hid (B1.out.trans (hb2.mono B1.out.size)); clear hb2
  have AB2 := Lib.hid hab; clear hab
  go_wp2_with fail
  refine (Merge_v vb va b a _ (HB.out.below B2.out) (HA.out.below B2.out) HVb.out HVa.out).mono ?_
  rintro e w3 ⟨vba, rfl, hba, hb3⟩
  have AB3 := Lib.hid (AB2.out.below hb3); have BA3 := Lib.hid hba; have B3 := Lib.hid (B2.out.trans (hb3.mono B2.out.size)); clear hb3 hba
  go_wp2_with fail
  refine (Members_v vab vba _ _ _ AB3.out BA3.out (by have := HL.out; omega) (merge_comm HVa.out.1 HVb.out.1)).mono ?_
  rintro e w4 ⟨rfl, hb4⟩
  have AB4 := Lib.hid (AB3.out.below hb4); have B4 := Lib.hid (B3.out.trans (hb4.mono B3.out.size)); clear hb4
  go_wp2_with fail
  refine (Merge_v vab va _ a _ AB4.out (HA.out.below B4.out) (valid_mergeL HVa.out HVb.out) HVa.out).mono ?_
  rintro e w5 ⟨vaa, rfl, haa, hb5⟩
  have AB5 := Lib.hid (AB4.out.below hb5); have AA5 := Lib.hid haa; have B5 := Lib.hid (B4.out.trans (hb5.mono B4.out.size)); clear hb5 haa
  go_wp2_with fail
  refine (Members_v vaa vab _ _ _ AA5.out AB5.out (by rw [merge_again HVa.out.1 HVb.out.1]; have := HL.out; omega) (merge_again HVa.out.1 HVb.out.1)).mono ?_
  rintro e w6 ⟨rfl, hb6⟩
  have AB6 := Lib.hid (AB5.out.below hb6); have B6 := Lib.hid (B5.out.trans (hb6.mono B5.out.size)); clear hb6
  go_wp2_with fail
  refine (Newer_v va vb a b _ (HA.out.below B6.out) (HB.out.below B6.out) HVa.out HVb.out).mono ?_
  rintro e w7 ⟨vn, rfl, hn, hb7⟩
  have AB7 := Lib.hid (AB6.out.below hb7); have N7 := Lib.hid hn; have B7 := Lib.hid (B6.out.trans (hb7.mono B6.out.size)); clear hb7 hn
  go_wp2_with fail
  refine (Merge_v va vn a _ _ (HA.out.below B7.out) N7.out HVa.out (valid_newerL HVb.out)).mono ?_
  rintro e w8 ⟨van, rfl, han, hb8⟩
  have AB8 := Lib.hid (AB7.out.below hb8); have AN8 := Lib.hid han; have B8 := Lib.hid (B7.out.trans (hb8.mono B7.out.size)); clear hb8 han
  go_wp2_with fail
  refine (Members_v van vab _ _ _ AN8.out AB8.out (by rw [merge_newer HVa.out.1 HVb.out.1]; have := HL.out; omega) (merge_newer HVa.out.1 HVb.out.1)).mono ?_
  rintro e w9 ⟨rfl, hb9⟩
  have AB9 := Lib.hid (AB8.out.below hb9); have B9 := Lib.hid (B8.out.trans (hb9.mono B8.out.size)); clear hb9
  go_wp2_with fail
  refine (Merge_v vb vc b c _ (HB.out.below B9.out) (HC.out.below B9.out) HVb.out HVc.out).mono ?_
  rintro e w10 ⟨vbc, rfl, hbc, hb10⟩
  have AB10 := Lib.hid (AB9.out.below hb10); have BC10 := Lib.hid hbc; have B10 := Lib.hid (B9.out.trans (hb10.mono B9.out.size)); clear hb10 hbc
  go_wp2_with fail
  refine (Merge_v vab vc _ c _ AB10.out (HC.out.below B10.out) (valid_mergeL HVa.out HVb.out) HVc.out).mono ?_
  rintro e w11 ⟨vx, rfl, hx, hb11⟩
  have X11 := Lib.hid hx; have BC11 := Lib.hid (BC10.out.below hb11); have B11 := Lib.hid (B10.out.trans (hb11.mono B10.out.size)); clear hb11 hx
  go_wp2_with fail
  refine (Merge_v va vbc a _ _ (HA.out.below B11.out) BC11.out HVa.out (valid_mergeL HVb.out HVc.out)).mono ?_
  rintro e w12 ⟨vy, rfl, hy, hb12⟩
  have X12 := Lib.hid (X11.out.below hb12); have Y12 := Lib.hid hy; have B12 := Lib.hid (B11.out.trans (hb12.mono B11.out.size)); clear hb12 hy
  go_wp2_with fail
  refine (Members_v vx vy _ _ _ X12.out Y12.out (by have := valid_length (valid_mergeL (valid_mergeL HVa.out HVb.out) HVc.out); omega) (merge_assoc HVa.out.1 HVb.out.1 HVc.out.1)).mono ?_
  rintro e w13 ⟨rfl, hb13⟩
  have B13 := Lib.hid (B12.out.trans (hb13.mono B12.out.size)); clear hb13
  go_wp2
  go_ret
  exact ⟨rfl, B13.out⟩

theorem once_any (va vb vc : Value) (a b c : List Mem) (w : World) (ha : SlR w va a) (hb : SlR w vb b) (hc : SlR w vc c) :
    Calls Try.prog 3 #[va, vb, vc] w fun e w' => e = .returned (.bool true) ∧ Below w.heap.size w w' := by
  by_cases h : Valid a ∧ Valid b
  · by_cases h' : Valid c
    · exact once_good va vb vc a b c w ha hb hc h.1 h.2 h'
    · exact once_third va vb vc a b c w ha hb hc h.1 h.2 h'
  · exact once_bad va vb vc a b w ha hb h
end Go.Proofs.Ytachfnmbhhppbaa
