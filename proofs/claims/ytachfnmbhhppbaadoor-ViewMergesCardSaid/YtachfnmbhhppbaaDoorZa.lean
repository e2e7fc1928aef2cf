/- The walk of ViewMerges, the first view bad. -/
import Derived.Test.YtachfnmbhhppbaaDoorY
namespace Go.Proofs.YtachfnmbhhppbaaDoor
set_option maxRecDepth 100000
open Go.RowKit
set_option maxHeartbeats 4000000 in
theorem merges_bad_none (A : Option Addr) (n c : Nat) (vb : Value) (a b : List Mem) (nd : Int) (up : Bool) (w : World) (ha : SlR w (.slice A n c) a) (hb : SlR w vb b) (hg : Gl w) (ea : Int) (h1 : viewErr a = ea) (h0 : ea ≠ 0) (hn : n = 0) :
    Calls Tryd.prog 3 #[.slice A n c, vb, .int .i64 nd, .bool up] w fun e w' => e = .returned (.bool true) ∧ Below w.heap.size w w' := by
  have HA := Lib.hid ha; have HBb := Lib.hid hb; have HG := Lib.hid hg; have HZ := Lib.hid hg.lt
  clear ha hb hg

  have hne : (ea == 0) = false := by simpa using h0
  have H1 := Lib.hid h1; have H0 := Lib.hid h0; clear h1 h0
  have HAl : Hid (alvL a = []) := Lib.hid (by rw [alvL, if_neg (by rw [H1.out]; exact H0.out)])
  have HBo : Hid (bothErr a b = ea) := Lib.hid (by rw [bothErr, if_neg (by rw [H1.out]; exact H0.out), H1.out])
  have HMl : Hid (mrgL a b = []) := Lib.hid (by rw [mrgL, if_neg (by rw [HBo.out]; exact H0.out)])
  have HNl : Hid (nwrL a b = []) := Lib.hid (by rw [nwrL, if_neg (by rw [HBo.out]; exact H0.out)])
  have HBe : Hid (bmpE a nd = ea) := Lib.hid (by rw [bmpE, if_pos (by rw [H1.out]; exact H0.out), H1.out])
  have HBl : Hid (bmpL a nd up = []) := Lib.hid (by rw [bmpL, if_neg (by rw [HBe.out]; exact H0.out)])
  subst hn
  have B : Hid (Below w.heap.size w w) := Lib.hid (Below.refl _ _)
  go_enter Tryd.func3, Tryd.ntmps3
  go_wp2_with fail
  refine (View_k _ a ea _ (HA.out.below B.out) H1.out).mono ?_
  rintro e w1 ⟨rfl, hb1⟩
  have B := Lib.hid (B.out.trans (hb1.mono B.out.size))
  clear hb1
  go_wp2_with fail
  refine (Check_k _ a ea _ (HA.out.below B.out) H1.out).mono ?_
  rintro e w2 ⟨rfl, hb2⟩
  have B := Lib.hid (B.out.trans (hb2.mono B.out.size))
  clear hb2
  go_wp2_with fail
  refine (Error_k ea _ (HG.out.below B.out HZ.out)).mono ?_
  rintro e w3 ⟨rfl, hb3⟩
  have B := Lib.hid (B.out.trans (hb3.mono B.out.size))
  clear hb3
  go_wp2_with fail
  refine (Merge_k _ _ a b [] ea _ (HA.out.below B.out) (HBb.out.below B.out) HBo.out HMl.out).mono ?_
  rintro e w4 ⟨vm, rfl, hm, hb4⟩
  have B := Lib.hid (B.out.trans (hb4.mono B.out.size))
  have M := Lib.hid hm
  clear hb4 hm
  go_wp2_with fail
  refine (Error_k ea _ (HG.out.below B.out HZ.out)).mono ?_
  rintro e w5 ⟨rfl, hb5⟩
  have M := Lib.hid (M.out.below hb5)
  have B := Lib.hid (B.out.trans (hb5.mono B.out.size))
  clear hb5
  go_wp2_with fail
  refine (Newer_k _ _ a b [] ea _ (HA.out.below B.out) (HBb.out.below B.out) HBo.out HNl.out).mono ?_
  rintro e w6 ⟨vn, rfl, hn, hb6⟩
  have M := Lib.hid (M.out.below hb6)
  have B := Lib.hid (B.out.trans (hb6.mono B.out.size))
  have N := Lib.hid hn
  clear hb6 hn
  go_wp2_with fail
  refine (Error_k ea _ (HG.out.below B.out HZ.out)).mono ?_
  rintro e w7 ⟨rfl, hb7⟩
  have M := Lib.hid (M.out.below hb7)
  have N := Lib.hid (N.out.below hb7)
  have B := Lib.hid (B.out.trans (hb7.mono B.out.size))
  clear hb7
  go_wp2_with fail
  refine (Members_v _ _ [] [] _ M.out (SlR.nil _) (by simp) rfl).mono ?_
  rintro e w8 ⟨rfl, hb8⟩
  have M := Lib.hid (M.out.below hb8)
  have N := Lib.hid (N.out.below hb8)
  have B := Lib.hid (B.out.trans (hb8.mono B.out.size))
  clear hb8
  go_wp2_with fail
  refine (Members_v _ _ [] [] _ N.out (SlR.nil _) (by simp) rfl).mono ?_
  rintro e w9 ⟨rfl, hb9⟩
  have M := Lib.hid (M.out.below hb9)
  have N := Lib.hid (N.out.below hb9)
  have B := Lib.hid (B.out.trans (hb9.mono B.out.size))
  clear hb9
  go_wp2_with fail
  go_loopw [24, 25] (fun o i wr => i = .int .i64 0 ∧ o = .slice none 0 0 ∧ Below w.heap.size w wr) (fun _ _ _ => 0)
  case atStart => exact ⟨rfl, rfl, B.out⟩
  case round =>
    obtain ⟨rfl, rfl, hb⟩ := hrel
    have B := Lib.hid hb; clear hb
    go_wp2_with fail
    refine (Alive_k _ a [] ea _ (HA.out.below B.out) H1.out HAl.out).mono ?_
    rintro e w10 ⟨vl, rfl, hl, hb10⟩
    have B := Lib.hid (B.out.trans (hb10.mono B.out.size))
    have L := Lib.hid hl
    clear hb10 hl
    go_wp2_with fail
    refine (Error_k ea _ (HG.out.below B.out HZ.out)).mono ?_
    rintro e w11 ⟨rfl, hb11⟩
    have L := Lib.hid (L.out.below hb11)
    have B := Lib.hid (B.out.trans (hb11.mono B.out.size))
    clear hb11
    go_wp2_with fail
    refine (Ints_s _ _ [] _ L.out (SlI.nil _) (by simp)).mono ?_
    rintro e w12 ⟨rfl, hb12⟩
    have B := Lib.hid (B.out.trans (hb12.mono B.out.size))
    clear hb12
    go_wp2_with fail
    refine (Bump_k _ a [] nd up ea _ (HA.out.below B.out) HBe.out HBl.out).mono ?_
    rintro e w13 ⟨vt, rfl, ht, hb13⟩
    have B := Lib.hid (B.out.trans (hb13.mono B.out.size))
    have T := Lib.hid ht
    clear hb13 ht
    go_wp2_with fail
    refine (Error_k ea _ (HG.out.below B.out HZ.out)).mono ?_
    rintro e w14 ⟨rfl, hb14⟩
    have T := Lib.hid (T.out.below hb14)
    have B := Lib.hid (B.out.trans (hb14.mono B.out.size))
    clear hb14
    go_wp2_with fail
    refine (Members_v _ _ [] [] _ T.out (SlR.nil _) (by simp) rfl).mono ?_
    rintro e w15 ⟨rfl, hb15⟩
    have T := Lib.hid (T.out.below hb15)
    have B := Lib.hid (B.out.trans (hb15.mono B.out.size))
    clear hb15
    go_wp2
    go_ret
    exact ⟨rfl, B.out⟩
set_option maxHeartbeats 4000000 in
theorem merges_bad_some (A : Option Addr) (n c : Nat) (vb : Value) (a b : List Mem) (nd : Int) (up : Bool) (w : World) (ha : SlR w (.slice A n c) a) (hb : SlR w vb b) (hg : Gl w) (ea : Int) (h1 : viewErr a = ea) (h0 : ea ≠ 0) (hn : 0 < n) :
    Calls Tryd.prog 3 #[.slice A n c, vb, .int .i64 nd, .bool up] w fun e w' => e = .returned (.bool true) ∧ Below w.heap.size w w' := by
  have HA := Lib.hid ha; have HBb := Lib.hid hb; have HG := Lib.hid hg; have HZ := Lib.hid hg.lt
  clear ha hb hg

  have hne : (ea == 0) = false := by simpa using h0
  have H1 := Lib.hid h1; have H0 := Lib.hid h0; clear h1 h0
  have HAl : Hid (alvL a = []) := Lib.hid (by rw [alvL, if_neg (by rw [H1.out]; exact H0.out)])
  have HBo : Hid (bothErr a b = ea) := Lib.hid (by rw [bothErr, if_neg (by rw [H1.out]; exact H0.out), H1.out])
  have HMl : Hid (mrgL a b = []) := Lib.hid (by rw [mrgL, if_neg (by rw [HBo.out]; exact H0.out)])
  have HNl : Hid (nwrL a b = []) := Lib.hid (by rw [nwrL, if_neg (by rw [HBo.out]; exact H0.out)])
  have HBe : Hid (bmpE a nd = ea) := Lib.hid (by rw [bmpE, if_pos (by rw [H1.out]; exact H0.out), H1.out])
  have HBl : Hid (bmpL a nd up = []) := Lib.hid (by rw [bmpL, if_neg (by rw [HBe.out]; exact H0.out)])
  have hn' : (0 : Int) < (n : Int) := by omega
  have B : Hid (Below w.heap.size w w) := Lib.hid (Below.refl _ _)
  go_enter Tryd.func3, Tryd.ntmps3
  go_wp2_with fail
  refine (View_k _ a ea _ (HA.out.below B.out) H1.out).mono ?_
  rintro e w1 ⟨rfl, hb1⟩
  have B := Lib.hid (B.out.trans (hb1.mono B.out.size))
  clear hb1
  go_wp2_with fail
  refine (Check_k _ a ea _ (HA.out.below B.out) H1.out).mono ?_
  rintro e w2 ⟨rfl, hb2⟩
  have B := Lib.hid (B.out.trans (hb2.mono B.out.size))
  clear hb2
  go_wp2_with fail
  refine (Error_k ea _ (HG.out.below B.out HZ.out)).mono ?_
  rintro e w3 ⟨rfl, hb3⟩
  have B := Lib.hid (B.out.trans (hb3.mono B.out.size))
  clear hb3
  go_wp2_with fail
  refine (Merge_k _ _ a b [] ea _ (HA.out.below B.out) (HBb.out.below B.out) HBo.out HMl.out).mono ?_
  rintro e w4 ⟨vm, rfl, hm, hb4⟩
  have B := Lib.hid (B.out.trans (hb4.mono B.out.size))
  have M := Lib.hid hm
  clear hb4 hm
  go_wp2_with fail
  refine (Error_k ea _ (HG.out.below B.out HZ.out)).mono ?_
  rintro e w5 ⟨rfl, hb5⟩
  have M := Lib.hid (M.out.below hb5)
  have B := Lib.hid (B.out.trans (hb5.mono B.out.size))
  clear hb5
  go_wp2_with fail
  refine (Newer_k _ _ a b [] ea _ (HA.out.below B.out) (HBb.out.below B.out) HBo.out HNl.out).mono ?_
  rintro e w6 ⟨vn, rfl, hn, hb6⟩
  have M := Lib.hid (M.out.below hb6)
  have B := Lib.hid (B.out.trans (hb6.mono B.out.size))
  have N := Lib.hid hn
  clear hb6 hn
  go_wp2_with fail
  refine (Error_k ea _ (HG.out.below B.out HZ.out)).mono ?_
  rintro e w7 ⟨rfl, hb7⟩
  have M := Lib.hid (M.out.below hb7)
  have N := Lib.hid (N.out.below hb7)
  have B := Lib.hid (B.out.trans (hb7.mono B.out.size))
  clear hb7
  go_wp2_with fail
  refine (Members_v _ _ [] [] _ M.out (SlR.nil _) (by simp) rfl).mono ?_
  rintro e w8 ⟨rfl, hb8⟩
  have M := Lib.hid (M.out.below hb8)
  have N := Lib.hid (N.out.below hb8)
  have B := Lib.hid (B.out.trans (hb8.mono B.out.size))
  clear hb8
  go_wp2_with fail
  refine (Members_v _ _ [] [] _ N.out (SlR.nil _) (by simp) rfl).mono ?_
  rintro e w9 ⟨rfl, hb9⟩
  have M := Lib.hid (M.out.below hb9)
  have N := Lib.hid (N.out.below hb9)
  have B := Lib.hid (B.out.trans (hb9.mono B.out.size))
  clear hb9
  go_wp2_with fail
  go_loopw [24, 25] (fun o i wr => i = .int .i64 0 ∧ o = .slice none 0 0 ∧ Below w.heap.size w wr) (fun _ _ _ => 0)
  case atStart => exact ⟨rfl, rfl, B.out⟩
  case round =>
    obtain ⟨rfl, rfl, hb⟩ := hrel
    have B := Lib.hid hb; clear hb
    go_wp2_with fail
    refine (Alive_k _ a [] ea _ (HA.out.below B.out) H1.out HAl.out).mono ?_
    rintro e w10 ⟨vl, rfl, hl, hb10⟩
    have B := Lib.hid (B.out.trans (hb10.mono B.out.size))
    have L := Lib.hid hl
    clear hb10 hl
    go_wp2_with fail
    refine (Error_k ea _ (HG.out.below B.out HZ.out)).mono ?_
    rintro e w11 ⟨rfl, hb11⟩
    have L := Lib.hid (L.out.below hb11)
    have B := Lib.hid (B.out.trans (hb11.mono B.out.size))
    clear hb11
    go_wp2_with fail
    refine (Ints_s _ _ [] _ L.out (SlI.nil _) (by simp)).mono ?_
    rintro e w12 ⟨rfl, hb12⟩
    have B := Lib.hid (B.out.trans (hb12.mono B.out.size))
    clear hb12
    go_wp2_with fail
    refine (Bump_k _ a [] nd up ea _ (HA.out.below B.out) HBe.out HBl.out).mono ?_
    rintro e w13 ⟨vt, rfl, ht, hb13⟩
    have B := Lib.hid (B.out.trans (hb13.mono B.out.size))
    have T := Lib.hid ht
    clear hb13 ht
    go_wp2_with fail
    refine (Error_k ea _ (HG.out.below B.out HZ.out)).mono ?_
    rintro e w14 ⟨rfl, hb14⟩
    have T := Lib.hid (T.out.below hb14)
    have B := Lib.hid (B.out.trans (hb14.mono B.out.size))
    clear hb14
    go_wp2_with fail
    refine (Members_v _ _ [] [] _ T.out (SlR.nil _) (by simp) rfl).mono ?_
    rintro e w15 ⟨rfl, hb15⟩
    have T := Lib.hid (T.out.below hb15)
    have B := Lib.hid (B.out.trans (hb15.mono B.out.size))
    clear hb15
    go_wp2
    go_ret
    exact ⟨rfl, B.out⟩
end Go.Proofs.YtachfnmbhhppbaaDoor
