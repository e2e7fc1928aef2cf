/- back.Numbers: the walk. -/
import Derived.Test.YtpaahhanjjjieaaBn
namespace Go.Proofs.Ytpaahhanjjjieaa
set_option maxRecDepth 100000
open Go.RowKit Go.Sort

def NumsPost (w : World) (l : List (Int × Int)) (e : Ending) (w' : World) : Prop :=
  ∃ r, e = .returned (.tuple #[r, errV (numsErr l)]) ∧ (numsErr l = 0 → ∃ n', w'.ownsRow w.heap.size 3 1 r n' (icells (numsL l))) ∧ (numsErr l ≠ 0 → r = .slice none 0 0) ∧ Below w.heap.size w w'
theorem numsErr_bad {l : List (Int × Int)} {p : Int × Int} (hl : l.length ≤ 200) (hp : p ∈ l) (hb : ¬ goodPr p) : numsErr l = 1 := by
  rw [numsErr, if_neg (by omega), if_neg (fun h => hb (h p hp))]
theorem NumsPost.bad {w w' : World} {l : List (Int × Int)} {p : Int × Int} (hl : l.length ≤ 200) (hp : p ∈ l) (hb : ¬ goodPr p) (h : Below w.heap.size w w') : NumsPost w l (.returned (.tuple #[.slice none 0 0, errV 1])) w' := by
  have e := numsErr_bad hl hp hb
  refine ⟨.slice none 0 0, by rw [e], fun h0 => ?_, fun _ => rfl, h⟩
  rw [e] at h0; cases h0

theorem Numbers_long (A : Option Addr) (n c : Nat) (l : List (Int × Int)) (w : World) (hl : l.length = n) (h : 200 < n) (hn : n ≤ 9223372036854775807) :
    Calls Try.prog 6 #[.slice A n c] w (NumsPost w l) := by
  have h' : (200 : Int) < (n : Int) := by omega
  have e4 : numsErr l = 4 := by rw [numsErr, if_pos (by omega)]
  have E4 := Lib.hid e4
  clear hl e4
  go_enter Try.func6, Try.ntmps6
  go_wp2
  go_ret2
  refine ⟨.slice none 0 0, by rw [E4.out]; rfl, fun h0 => ?_, fun _ => rfl, Below.refl _ _⟩
  rw [E4.out] at h0; cases h0

set_option maxHeartbeats 8000000 in
theorem Numbers_short (A : Option Addr) (n c : Nat) (l : List (Int × Int)) (w : World) (hl : l.length = n) (hr : RdC w w.heap.size A (qcells l)) (h : n ≤ 200) :
    Calls Try.prog 6 #[.slice A n c] w (NumsPost w l) := by
  obtain ⟨i0, hi, hz0, hz1, hz2⟩ := info_parts infoI
  have HL := Lib.hid hl; have HR := Lib.hid hr
  clear hl hr
  go_enter Try.func6, Try.ntmps6
  go_wp2
  go_loopw [4, 14] (fun sl i wz => ∃ (k cc : Nat) (A' : Option Addr), k ≤ n ∧ i = .int .i64 k ∧ sl = .slice A' (expandZ (l.take k)).length cc ∧ wz.ownsRow w.heap.size 3 1 (.slice A' (expandZ (l.take k)).length cc) (expandZ (l.take k)).length (icells (expandZ (l.take k))) ∧ (∀ p ∈ l.take k, goodPr p) ∧ Below w.heap.size w wz) (fun _ i _ => n - (intOf i).toNat)
  case atStart => exact ⟨0, 0, none, by omega, rfl, rfl, World.ownsRow_nil _ _ _ _, by simp, Below.refl _ _⟩
  case round =>
    obtain ⟨k, cc, A', hk, rfl, rfl, hown, hgood, hb⟩ := hrel
    have HG := Lib.hid hgood; have HB := Lib.hid hb
    by_cases hlt : k < n
    · obtain ⟨b, off, p, hA, hblk, hp, e1, e2⟩ := HR.out.pair_at hb (k := k) (by rw [HL.out]; omega)
      subst hA
      obtain ⟨pb, pm⟩ := p
      simp only at e1 e2
      have HTk : Hid (l.take (k + 1) = l.take k ++ [(pb, pm)]) := Lib.hid (by
        obtain ⟨hk', hx'⟩ := List.getElem?_eq_some_iff.1 hp
        rw [List.take_succ_eq_append_getElem hk', hx'])
      have HPm : Hid ((pb, pm) ∈ l) := Lib.hid (List.mem_of_getElem? hp)
      have HLe : Hid ((expandZ (l.take k)).length ≤ 3400) := Lib.hid (by have := expandZ_length (l.take k); rw [List.length_take] at this; omega)
      obtain ⟨E, hE⟩ : ∃ E, E = expandZ (l.take k) := ⟨_, rfl⟩
      rw [← hE] at hown HLe
      rw [← hE]
      have HEe := Lib.hid hE; have HO := Lib.hid hown
      clear hE hown hp hgood hb
      obtain ⟨ww, hww⟩ : ∃ ww, ww = wr := ⟨_, rfl⟩
      subst hww
      by_cases hin : inPr (pb, pm)
      · have HIn := Lib.hid hin
        obtain ⟨h0, h1, h2, h3⟩ := hin
        simp only at h0 h1 h2 h3
        have h2' : decide (pm < 0) = false := by simpa using h2
        have h3' : decide (65535 < pm) = false := by simpa using h3
        go_wp2_with fail
        refine (Seq_yes pb _ ⟨h0, h1⟩).mono ?_
        rintro e w1 ⟨rfl, hw1⟩
        rw [← hw1]; clear hw1
        have HO1 : Hid (((ww.alloc (.cells #[.int .i64 pb, .int .i64 pm] 36)).alloc (.cells #[.int .i64 pb] 3)).ownsRow w.heap.size 3 1 (.slice A' E.length cc) E.length (icells E)) := Lib.hid (own_below HO.out (((Below.refl _ _).alloc (Nat.le_refl _) _).alloc (by simp) _))
        go_wp2_with (at_builtin; refine wpList_append_own_at _ rfl _ _ 22 rfl w.heap.size 3 i0 _ 1 8 Try.underlying22 hi hz0 hz1 hz2 rfl (by decide) _ _ _ rfl HO1.out ⟨ww.heap.size + 1, 0, none⟩ 1 1 [.int .i64 pb] rfl rfl (one_new _ _ _ _ (by simp)) (by simp [Value.oneCell']) (by have := HLe.out; unfold maxLen; omega) (by have := HLe.out; omega) (by have := HB.out.size; simp; omega) ?_; intro v' w5 hown5 hgr5 hnil5 hloc5)
        obtain ⟨A6, c6, hv6⟩ := own_slice hown5
        subst hv6
        have hne : some ww.heap.size ≠ (Value.slice A' E.length cc).ownBlock := fun e => by have := (HO.out.lt _ e.symm).2; omega
        have b0 : w5.cell? ⟨ww.heap.size, 0, none⟩ = some (.int .i64 pb) := hgr5.cell (by simp) hne
        have b1 : w5.cell? ⟨ww.heap.size, 1, none⟩ = some (.int .i64 pm) := hgr5.cell (by simp) hne
        have HNe : Hid (∀ g, (Value.slice A6 (E.length + 1) c6).ownBlock = some g → g ≠ ww.heap.size) := Lib.hid (fun g hg => by
          have hloc6 : (Value.slice A6 (E.length + 1) c6).ownBlock = (Value.slice A' E.length cc).ownBlock ∨ (Value.slice A6 (E.length + 1) c6).ownBlock = some ((ww.alloc (.cells #[.int .i64 pb, .int .i64 pm] 36)).alloc (.cells #[.int .i64 pb] 3)).heap.size := hloc5
          rcases hloc6 with h' | h'
          · rw [h'] at hg; exact fun e => hne (by rw [← e, hg])
          · rw [h'] at hg; simp at hg; omega)
        have HO5 : Hid (w5.ownsRow w.heap.size 3 1 (.slice A6 (E.length + 1) c6) (E.length + 1) (icells (E ++ numsTo (pb, pm) 0))) := Lib.hid (by rw [numsTo_zero, icells_append]; exact hown5)
        have HB5 : Hid (Below w.heap.size w w5) := Lib.hid (((HB.out.alloc HB.out.size _).alloc (by have := HB.out.size; simp; omega) _).grown hgr5 (by have := HB.out.size; simp; omega) (fun j hj => (HO.out.lt j hj).1))
        clear hown5 hgr5 hloc5 hne hnil5
        go_wp2_with fail
        go_loopw [4, 38] (fun sl i wi => ∃ (j cc : Nat) (A' : Option Addr), j ≤ 16 ∧ i = .int .i64 j ∧ sl = .slice A' (E ++ numsTo (pb, pm) j).length cc ∧ wi.ownsRow w.heap.size 3 1 (.slice A' (E ++ numsTo (pb, pm) j).length cc) (E ++ numsTo (pb, pm) j).length (icells (E ++ numsTo (pb, pm) j)) ∧ wi.cell? ⟨ww.heap.size, 0, none⟩ = some (.int .i64 pb) ∧ wi.cell? ⟨ww.heap.size, 1, none⟩ = some (.int .i64 pm) ∧ (∀ g, (Value.slice A' (E ++ numsTo (pb, pm) j).length cc).ownBlock = some g → g ≠ ww.heap.size) ∧ Below w.heap.size w wi) (fun _ i _ => 16 - (intOf i).toNat)
        case atStart => exact ⟨0, c6, A6, by omega, rfl, by simp [numsTo_zero], by simpa [numsTo_zero] using HO5.out, b0, b1, by simpa [numsTo_zero] using HNe.out, HB5.out⟩
        case round =>
          obtain ⟨j, cj, Aj, hj, rfl, rfl, hownj, c0, c1, hnej, hbj⟩ := hrel
          have HLj : Hid ((E ++ numsTo (pb, pm) j).length ≤ 3417) := Lib.hid (by have := numsTo_length (pb, pm) j; have := HLe.out; rw [List.length_append]; omega)
          obtain ⟨F, hF⟩ : ∃ F, F = E ++ numsTo (pb, pm) j := ⟨_, rfl⟩
          rw [← hF] at hownj hnej HLj
          rw [← hF]
          have HOj := Lib.hid hownj; have HNj := Lib.hid hnej; have HBj := Lib.hid hbj; have HF := Lib.hid hF
          clear hownj hnej hbj hF
          obtain ⟨wi, hwi⟩ : ∃ wi, wi = wr := ⟨_, rfl⟩
          subst hwi
          by_cases hj16 : j < 16
          · cases hbit : pm.toNat.testBit j with
            | true =>
              have hbt : (bits .and .i64 (pm / 2 ^ j) 1 == 1) = true := by rw [bit_at pm j h2 h3, hbit]; rfl
              have HBit := Lib.hid hbit
              clear hbit
              go_wp2_with (at_builtin; refine wpList_append_own_at _ rfl _ _ 22 rfl w.heap.size 3 i0 _ 1 8 Try.underlying22 hi hz0 hz1 hz2 rfl (by decide) _ _ _ rfl (own_below HOj.out ((Below.refl wi.heap.size wi).alloc (Nat.le_refl _) (.cells #[.int .i64 (pb + (j : Int) + 1)] 3))) ⟨wi.heap.size, 0, none⟩ 1 1 [.int .i64 (pb + (j : Int) + 1)] rfl rfl (one_new _ _ _ _ rfl) (by simp [Value.oneCell']) (by have := HLj.out; unfold maxLen; omega) (by have := HLj.out; omega) (le_alloc HBj.out.size) ?_; intro v' w7 hown7 hgr7 hnil7 hloc7)
              obtain ⟨A8, c8, hv8⟩ := own_slice hown7
              subst hv8
              have hne : some ww.heap.size ≠ (Value.slice Aj F.length cj).ownBlock := fun e => HNj.out _ e.symm rfl
              have hblt : ww.heap.size < wi.heap.size := World.block_lt_of_cell? wi _ c0
              have d0 : w7.cell? ⟨ww.heap.size, 0, none⟩ = some (.int .i64 pb) := hgr7.cell ((World.cell?_alloc_lt _ _ _ hblt).trans c0) hne
              have d1 : w7.cell? ⟨ww.heap.size, 1, none⟩ = some (.int .i64 pm) := hgr7.cell ((World.cell?_alloc_lt _ _ _ hblt).trans c1) hne
              have HN7 : Hid (∀ g, (Value.slice A8 (F.length + 1) c8).ownBlock = some g → g ≠ ww.heap.size) := Lib.hid (fun g hg => by
                have hloc8 : (Value.slice A8 (F.length + 1) c8).ownBlock = (Value.slice Aj F.length cj).ownBlock ∨ (Value.slice A8 (F.length + 1) c8).ownBlock = some (wi.alloc (.cells #[.int .i64 (pb + (j : Int) + 1)] 3)).heap.size := hloc7
                rcases hloc8 with h' | h'
                · rw [h'] at hg; exact fun e => hne (by rw [← e, hg])
                · rw [h'] at hg; simp at hg; omega)
              have HO7 : Hid (w7.ownsRow w.heap.size 3 1 (.slice A8 (F.length + 1) c8) (F.length + 1) (icells (F ++ [pb + (j : Int) + 1]))) := Lib.hid (by rw [icells_append]; exact hown7)
              have HB7 : Hid (Below w.heap.size w w7) := Lib.hid ((HBj.out.alloc HBj.out.size _).grown hgr7 (le_alloc HBj.out.size) (fun j hj => (HOj.out.lt j hj).1))
              clear hown7 hgr7 hloc7 hne hnil7
              go_wp2
              go_roundw
              case rel =>
                have hs : E ++ numsTo (pb, pm) (j + 1) = F ++ [pb + (j : Int) + 1] := by rw [numsTo_yes HBit.out, HF.out, List.append_assoc]
                exact ⟨j + 1, c8, A8, by omega, by go_num, by rw [hs]; simp, by rw [hs, List.length_append]; exact HO7.out, d0, d1, by rw [hs, List.length_append]; exact HN7.out, HB7.out⟩
              case measure => simp [intOf]; omega
            | false =>
              have hbt : (bits .and .i64 (pm / 2 ^ j) 1 == 1) = false := by rw [bit_at pm j h2 h3, hbit]; rfl
              have HBit := Lib.hid hbit
              clear hbit
              go_wp2
              go_roundw
              case rel =>
                have hs : E ++ numsTo (pb, pm) (j + 1) = F := by rw [numsTo_no HBit.out, HF.out]
                exact ⟨j + 1, cj, Aj, by omega, by go_num, by rw [hs], by rw [hs]; exact HOj.out, c0, c1, by rw [hs]; exact HNj.out, HBj.out⟩
              case measure => simp [intOf]; omega
          · obtain rfl : j = 16 := by omega
            have HFz : Hid (F = E ++ numsZ (pb, pm)) := Lib.hid (by rw [HF.out, numsTo_all])
            obtain ⟨f, hf⟩ : ∃ f, F.length = f + 1 := ⟨F.length - 1, by have := (length_nums (pb, pm.toNat)).1; have h2 := congrArg List.length HFz.out; rw [List.length_append] at h2; simp only [numsZ] at h2; omega⟩
            have hlast : F[f]? = some (lastN (pb, pm)) := by
              have e1 : F[f]? = F.getLast? := by rw [List.getLast?_eq_getElem?, hf]; simp
              rw [e1, HFz.out, List.getLast?_append]
              unfold lastN
              rw [List.getLastD_eq_getLast?, List.getLast?_eq_some_getLast (numsZ_ne _)]
              rfl
            have hof := HOj.out
            rw [hf] at hof ⊢
            have HO6 := Lib.hid hof
            have hfl : f ≤ 3417 := by have := HLj.out; omega
            obtain ⟨g, hA6, hgl, hcells⟩ : ∃ g, Aj = some ⟨g, 0, none⟩ ∧ g < wi.heap.size ∧ ∀ (j : Nat) (u : Value), (icells F)[j]? = some u → wi.cell? ⟨g, 0 + j, none⟩ = some u := by
              obtain ⟨b', off', h1, h2, h3⟩ := RdC.of_own hof (by rw [icells_length]; omega)
              have h4 := hof.2
              rcases h4 with ⟨h5, _⟩ | ⟨g, cap, cur, h5, _⟩
              · cases h5
              · cases h5; cases h1; exact ⟨_, rfl, h2, h3⟩
            subst hA6
            have cl : wi.cell? ⟨g, f, none⟩ = some (.int .i64 (lastN (pb, pm))) := by
              have := hcells f (.int .i64 (lastN (pb, pm))) (by simp [icells, hlast])
              rwa [Nat.zero_add] at this
            have hl0 : 0 ≤ lastN (pb, pm) := by have := nums_bounds (lastN_mem (pb, pm)); simp at this; omega
            obtain ⟨L, hL⟩ : ∃ L, L = lastN (pb, pm) := ⟨_, rfl⟩
            rw [← hL] at cl hl0
            have HLn := Lib.hid hL
            have Hf := Lib.hid hf
            clear hcells hlast hof hL hf
            by_cases hok : L ≤ 65535
            · go_wp2_with fail
              refine (Seq_yes L _ ⟨hl0, hok⟩).mono ?_
              rintro e w8 ⟨rfl, hw8⟩
              rw [← hw8]; clear hw8
              go_wp2
              go_roundw
              case rel =>
                have hs : expandZ (l.take (k + 1)) = F := by rw [HTk.out, expandZ_snoc, ← HEe.out, HFz.out]
                refine ⟨k + 1, cj, some ⟨g, 0, none⟩, by omega, by go_num, by rw [hs, Hf.out], by rw [hs]; exact HOj.out, ?_, HBj.out⟩
                intro q hq
                rw [HTk.out] at hq
                rcases List.mem_append.1 hq with hq | hq
                · exact HG.out q hq
                · obtain rfl : q = (pb, pm) := by simpa using hq
                  exact ⟨HIn.out, by rw [← HLn.out]; exact hok⟩
              case measure => simp [intOf]; omega
            · go_wp2_with fail
              refine (Seq_no L _ (by omega)).mono ?_
              rintro e w8 ⟨rfl, hw8⟩
              rw [← hw8]; clear hw8
              go_wp2
              go_ret2
              exact NumsPost.bad (by rw [HL.out]; exact h) HPm.out (fun hh => by have := hh.2; rw [← HLn.out] at this; omega) HBj.out
      · have HNin : Hid (¬ goodPr (pb, pm)) := Lib.hid (fun hh => hin hh.1)
        have HBx : Hid (Below w.heap.size w (ww.alloc (.cells #[.int .i64 pb, .int .i64 pm] 36))) := Lib.hid (HB.out.alloc HB.out.size _)
        by_cases hseq : 0 ≤ pb ∧ pb ≤ 65535
        · by_cases hm0 : pm < 0
          · go_wp2_with fail
            refine (Seq_yes pb _ hseq).mono ?_
            rintro e w1 ⟨rfl, hw1⟩
            rw [← hw1]; clear hw1
            go_wp2
            go_ret2
            exact NumsPost.bad (by rw [HL.out]; exact h) HPm.out HNin.out HBx.out
          · have hm0' : decide (pm < 0) = false := by simpa using hm0
            have hm1 : 65535 < pm := by unfold inPr at hin; simp at hin; omega
            go_wp2_with fail
            refine (Seq_yes pb _ hseq).mono ?_
            rintro e w1 ⟨rfl, hw1⟩
            rw [← hw1]; clear hw1
            go_wp2
            go_ret2
            exact NumsPost.bad (by rw [HL.out]; exact h) HPm.out HNin.out HBx.out
        · go_wp2_with fail
          refine (Seq_no pb _ hseq).mono ?_
          rintro e w1 ⟨rfl, hw1⟩
          rw [← hw1]; clear hw1
          go_wp2
          go_ret2
          exact NumsPost.bad (by rw [HL.out]; exact h) HPm.out HNin.out HBx.out
    · obtain rfl : k = n := by omega
      have hT : l.take k = l := List.take_of_length_le (by rw [HL.out]; exact Nat.le_refl _)
      rw [hT] at hown hgood
      rw [hT]
      have HO := Lib.hid hown; have HGd := Lib.hid hgood
      have HLe : Hid ((expandZ l).length ≤ 3400) := Lib.hid (by have := expandZ_length l; have := HL.out; omega)
      clear hown hgood hb hT HG
      go_wp2_with fail
      refine (Sort_own _ _ _ _ _ HO.out (by have := HLe.out; omega)).mono ?_
      rintro e w8 ⟨rfl, hown8, hg8⟩
      have HO8 := Lib.hid hown8; have HB8 : Hid (Below w.heap.size w w8) := Lib.hid (HB.out.grown hg8 HB.out.size (fun j hj => (HO.out.lt j hj).1))
      clear hown8 hg8
      go_wp2_with fail
      refine (Compact_own _ _ _ _ _ HO8.out (by have := HLe.out; omega)).mono ?_
      rintro e w9 ⟨v9, rfl, hown9, hg9⟩
      have HO9 := Lib.hid hown9; have HB9 : Hid (Below w.heap.size w w9) := Lib.hid (HB8.out.grown hg9 HB8.out.size (fun j hj => (HO8.out.lt j hj).1))
      clear hown9 hg9
      go_wp2
      go_ret2
      have e0 : numsErr l = 0 := by rw [numsErr, if_neg (by have := HL.out; omega), if_pos HGd.out]
      exact ⟨_, by rw [e0]; rfl, fun _ => ⟨_, HO9.out⟩, fun hh => absurd e0 hh, HB9.out⟩
end Go.Proofs.Ytpaahhanjjjieaa
