/- back.Pairs: the pairs. -/
import Derived.Test.YtpaahhanjjjieaaBp
import Derived.BigRegion
namespace Go.Proofs.Ytpaahhanjjjieaa
set_option maxRecDepth 100000
open Go.RowKit

theorem bit_set (pm : Nat) (x pb : Int) (hm : pm < 65536) (h0 : pb < x) (h1 : x ≤ pb + 16) :
    bits .or .i64 (pm : Int) (wrap64 (2 ^ ((x - pb).toNat - 1))) = ((pm ||| 2 ^ ((x - pb).toNat - 1) : Nat) : Int) := by
  obtain ⟨k, hk, e2⟩ : ∃ k, k < 16 ∧ (x - pb).toNat - 1 = k := ⟨_, by omega, rfl⟩
  have hp := pow_lt hk
  have e3 : ((2 : Int) ^ k) = ((2 ^ k : Nat) : Int) := by simp
  have hw : ∀ z : Nat, z < 65536 → wrap64 ((z : Nat) : Int) = ((z : Nat) : Int) := fun z hz => by unfold wrap64; omega
  rw [e2, e3, hw _ hp]
  exact i64_or pm (2 ^ k) hm hp

set_option maxHeartbeats 4000000 in
theorem Pairs_ok (A : Option Addr) (n c : Nat) (l : List Int) (w : World) (hl : l.length = n) (hr : RdC w w.heap.size A (icells l)) (h : n ≤ 200) (hok : ∀ x ∈ l, okNum x) :
    Calls Try.prog 5 #[.slice A n c] w fun e w' => ∃ r n', e = .returned (.tuple #[r, .nilIface]) ∧ w'.ownsRow w.heap.size 36 2 r n' (qcells (toZ (pairsL (srt l)))) ∧ Below w.heap.size w w' := by
  obtain ⟨i0, hi, hz0, hz1, hz2⟩ := info_parts infoQ
  have HL := Lib.hid hl; have HR := Lib.hid hr; have HOk := Lib.hid hok
  have HSl : Hid ((srt l).length = n) := Lib.hid (by rw [srt_length]; exact hl)
  clear hl hr hok
  go_enter Try.func5, Try.ntmps5
  go_wp2
  go_loopw [16] (fun i wr => ∃ k : Nat, k ≤ n ∧ i = .int .i64 k ∧ w = wr) (fun i _ => n - (intOf i).toNat)
  case atStart => exact ⟨0, by omega, rfl, by trivial⟩
  case round =>
    obtain ⟨k, hk, rfl, rfl⟩ := hrel
    by_cases hlt : k < n
    · obtain ⟨b, off, m, hA, hblk, hm, e1⟩ := HR.out.int_at (Below.refl _ _) (k := k) (by rw [HL.out]; omega)
      subst hA
      have HOm : Hid (okNum m) := Lib.hid (HOk.out m (List.mem_of_getElem? hm))
      clear hm
      go_wp2_with fail
      refine (Seq_yes m _ HOm.out).mono ?_
      rintro e w1 ⟨rfl, rfl⟩
      go_wp2
      go_roundw
      case rel => exact ⟨k + 1, by omega, by go_num, by trivial⟩
      case measure => simp [intOf]; omega
    · go_wp2_with fail
      refine (Values_any A n c _).mono ?_
      rintro e w1 ⟨rfl, rfl⟩
      go_wp2_with fail
      refine (Sorted_any w.heap.size (.slice A n c) l _ (by simp) ⟨A, c, by rw [HL.out], HR.out.later ((Below.refl _ _).alloc (Nat.le_refl _) _)⟩ (by rw [HL.out]; omega)).mono ?_
      rintro e w1 ⟨v1, rfl, hown1, hb1⟩
      have hB1 : Below w.heap.size w w1 := ((Below.refl _ _).alloc (Nat.le_refl _) _).trans (hb1.mono (by simp))
      obtain ⟨A1, c1, hv1⟩ := own_slice hown1
      subst hv1
      have hR1 := RdC.of_own hown1
      rw [HL.out]
      have HR1 := Lib.hid hR1; have HB1 := Lib.hid hB1
      clear hR1 hB1 hown1 hb1
      go_wp2_with fail
      go_loopw [6, 29] (fun sl i wz => ∃ (k cc : Nat) (A' : Option Addr), k ≤ n ∧ i = .int .i64 k ∧ sl = .slice A' (pairsR ((srt l).take k)).length cc ∧ wz.ownsRow w1.heap.size 36 2 (.slice A' (pairsR ((srt l).take k)).length cc) (pairsR ((srt l).take k)).length (rcells (pairsR ((srt l).take k))) ∧ Below w1.heap.size w1 wz) (fun _ i _ => n - (intOf i).toNat)
      case atStart => exact ⟨0, 0, none, by omega, rfl, rfl, by simpa [pairsR, rcells, toZ, qcells] using World.ownsRow_nil _ _ _ _, Below.refl _ _⟩
      case round =>
        obtain ⟨k, cc, A', hk, rfl, rfl, hown, hb⟩ := hrel
        by_cases hlt : k < n
        · obtain ⟨b, off, x, hA, hblk, hx, e1⟩ := HR1.out.int_at hb (k := k) (by rw [HSl.out]; omega)
          subst hA
          have HSn : Hid (pairsR ((srt l).take (k + 1)) = pairStep (pairsR ((srt l).take k)) x) := Lib.hid (by
            rw [← pairsR_snoc]
            obtain ⟨hk', hx'⟩ := List.getElem?_eq_some_iff.1 hx
            rw [List.take_succ_eq_append_getElem hk', hx'])
          have HLe : Hid ((pairsR ((srt l).take k)).length ≤ 200) := Lib.hid (by have := length_pairsR ((srt l).take k); rw [List.length_take] at this; have := HSl.out; omega)
          have HOx : Hid (okNum x) := Lib.hid (HOk.out x ((srt_mem l x).1 (List.mem_of_getElem? hx)))
          obtain ⟨R, hR⟩ : ∃ R, R = pairsR ((srt l).take k) := ⟨_, rfl⟩
          rw [← hR] at hown HSn HLe
          rw [← hR]
          have HRe := Lib.hid hR; have HO := Lib.hid hown; have HB := Lib.hid hb
          clear hR hown hb hx
          have HStep : Hid (pairStep R x = pairStep R x) := Lib.hid rfl
          cases R with
          | nil =>
            go_wp2_with (at_builtin; refine wpList_append_own _ rfl _ _ 23 rfl w1.heap.size 36 i0 _ 2 16 Try.underlying23 hi hz0 hz1 hz2 rfl (by decide) _ _ _ rfl (own_below HO.out ((Below.refl wr.heap.size wr).alloc (Nat.le_refl _) (.cells #[.int .i64 x, .int .i64 0] 36))) ⟨wr.heap.size, 0, none⟩ 1 1 [.int .i64 x, .int .i64 0] rfl rfl (two_new _ _ _ _ _ rfl) (by simp [Value.oneCell']) (by have := HLe.out; unfold maxLen; omega) (by have := HLe.out; omega) (le_alloc HB.out.size) ?_; intro v' w5 hown5 hgr5 _)
            obtain ⟨A6, c6, hv6⟩ := own_slice hown5
            subst hv6
            have HO5 := Lib.hid hown5
            have HB5 : Hid (Below w1.heap.size w1 w5) := Lib.hid ((HB.out.alloc HB.out.size _).grown hgr5 (le_alloc HB.out.size) (fun j hj => (HO.out.lt j hj).1))
            clear hown5 hgr5
            go_wp2
            go_roundw
            case rel =>
              have hs : pairsR ((srt l).take (k + 1)) = (x, 0) :: [] := by rw [HSn.out]; rfl
              exact ⟨k + 1, c6, A6, by omega, by go_num, by rw [hs]; rfl, by rw [hs, rcells_cons]; exact HO5.out, HB5.out⟩
            case measure => simp [intOf]; omega
          | cons p s =>
            obtain ⟨pb, pm⟩ := p
            have hsl : s.length ≤ 200 := by have := HLe.out; simp at this; omega
            have hlast := rcells_last pb pm s
            obtain ⟨g, hA6, hgl, hcells⟩ : ∃ g, A' = some ⟨g, 0, none⟩ ∧ g < wr.heap.size ∧ ∀ (j : Nat) (u : Value), (rcells ((pb, pm) :: s))[j]? = some u → wr.cell? ⟨g, 0 + j, none⟩ = some u := by
              obtain ⟨b', off', h1, h2, h3⟩ := RdC.of_own HO.out (by rw [rcells_length]; simp)
              have h4 := HO.out.2
              rcases h4 with ⟨h5, _⟩ | ⟨g, cap, cur, h5, _⟩
              · cases h5
              · cases h5; cases h1; exact ⟨_, rfl, h2, h3⟩
            subst hA6
            have c0 : wr.cell? ⟨g, s.length * 2, none⟩ = some (.int .i64 pb) := by have := hcells _ _ hlast.1; rwa [Nat.zero_add] at this
            have c1' : wr.cell? ⟨g, s.length * 2 + 1, none⟩ = some (.int .i64 (pm : Int)) := by have := hcells _ _ hlast.2; rwa [Nat.zero_add] at this
            have hf : wr.frozen? ⟨g, s.length * 2 + 1, none⟩ = false := HO.out.frozenAt _
            clear hcells hlast
            have hpi := pinv_of ((srt l).take k) ((srt_pw l).sublist (List.take_sublist _ _))
            rw [← HRe.out] at hpi
            have hpb : okNum pb := HOk.out pb ((srt_mem l pb).1 (List.mem_of_mem_take (hpi.head pb pm s rfl).1))
            have hpm : pm < 65536 := hpi.mask (pb, pm) (by simp)
            have HPm := Lib.hid hpm
            obtain ⟨hx0, hx1⟩ := HOx.out
            obtain ⟨hp0, hp1⟩ := hpb
            clear hpi hpm
            by_cases h16 : x ≤ pb + 16
            · by_cases hgt : pb < x
              · go_wp2_with fail
                have q1 : (0 : Int) ≤ (s.length : Int) := by omega
                have q2 : (s.length : Int) < (s.length : Int) + 1 := by omega
                go_region
                rw [bit_set pm x pb HPm.out hgt h16]
                go_wp2
                go_roundw
                case rel =>
                  have hs : pairsR ((srt l).take (k + 1)) = (pb, pm ||| 2 ^ ((x - pb).toNat - 1)) :: s := by rw [HSn.out, pairStep, if_pos h16, if_pos hgt, show (x - pb - 1).toNat = (x - pb).toNat - 1 from by omega]
                  have hst := HO.out.stored (s.length * 2 + 1) (.int .i64 ((pm ||| 2 ^ ((x - pb).toNat - 1) : Nat) : Int))
                  rw [rcells_set] at hst
                  exact ⟨k + 1, cc, some ⟨g, 0, none⟩, by omega, by go_num, by rw [hs]; rfl, by rw [hs]; exact own_below hst.1 (below_drewN (Below.refl _ _) 1), below_drewN (HB.out.setCell (p := ⟨g, s.length * 2 + 1, none⟩) (HO.out.lt g rfl).1 _) 1⟩
                case measure => simp [intOf]; omega
              · go_wp2
                go_roundw
                case rel =>
                  have hs : pairsR ((srt l).take (k + 1)) = (pb, pm) :: s := by rw [HSn.out, pairStep, if_pos h16, if_neg hgt]
                  exact ⟨k + 1, cc, some ⟨g, 0, none⟩, by omega, by go_num, by rw [hs], by rw [hs]; exact HO.out, HB.out⟩
                case measure => simp [intOf]; omega
            · go_wp2_with (at_builtin; refine wpList_append_own _ rfl _ _ 23 rfl w1.heap.size 36 i0 _ 2 16 Try.underlying23 hi hz0 hz1 hz2 rfl (by decide) _ _ _ rfl (own_below HO.out ((Below.refl wr.heap.size wr).alloc (Nat.le_refl _) (.cells #[.int .i64 x, .int .i64 0] 36))) ⟨wr.heap.size, 0, none⟩ 1 1 [.int .i64 x, .int .i64 0] rfl rfl (two_new _ _ _ _ _ rfl) (by simp [Value.oneCell']) (by have := HLe.out; unfold maxLen; omega) (by have := HLe.out; omega) (le_alloc HB.out.size) ?_; intro v' w5 hown5 hgr5 _)
              obtain ⟨A6, c6, hv6⟩ := own_slice hown5
              subst hv6
              have HO5 := Lib.hid hown5
              have HB5 : Hid (Below w1.heap.size w1 w5) := Lib.hid ((HB.out.alloc HB.out.size _).grown hgr5 (le_alloc HB.out.size) (fun j hj => (HO.out.lt j hj).1))
              clear hown5 hgr5
              go_wp2
              go_roundw
              case rel =>
                have hs : pairsR ((srt l).take (k + 1)) = (x, 0) :: (pb, pm) :: s := by rw [HSn.out, pairStep, if_neg h16]
                exact ⟨k + 1, c6, A6, by omega, by go_num, by rw [hs]; rfl, by rw [hs, rcells_cons]; exact HO5.out, HB5.out⟩
              case measure => simp [intOf]; omega
        · obtain rfl : k = n := by omega
          have HT : Hid (wr.ownsRow w.heap.size 36 2 (.slice A' (pairsR ((srt l).take k)).length cc) (pairsR ((srt l).take k)).length (qcells (toZ (pairsL (srt l))))) := Lib.hid (by
            have := own_more hown HB1.out.size
            rwa [show rcells (pairsR ((srt l).take k)) = qcells (toZ (pairsL (srt l))) from by rw [List.take_of_length_le (by rw [HSl.out]; exact Nat.le_refl _)]; rfl] at this)
          have HB := Lib.hid hb
          clear hown hb
          go_wp2
          go_ret2
          exact ⟨_, _, rfl, HT.out, HB1.out.trans (HB.out.mono HB1.out.size)⟩
end Go.Proofs.Ytpaahhanjjjieaa
