/- The walk of BackFew. -/
import Derived.Test.YtpaahhanjjjieaaBy
namespace Go.Proofs.Ytpaahhanjjjieaa
set_option maxRecDepth 100000
open Go.RowKit Go.Sort

def row (f : Int) (k : Nat) : List Int := (List.range k).map fun (i : Nat) => f + (i : Int)
theorem row_succ (f : Int) (k : Nat) : row f (k + 1) = row f k ++ [f + (k : Int)] := by simp [row, List.range_succ]
theorem row_ss (f : Int) (k : Nat) : SS (row f k) := by
  unfold SS row
  rw [List.pairwise_map]
  exact List.pairwise_lt_range.imp fun h => by omega
theorem srt_row (f : Int) (k : Nat) : srt (row f k) = row f k := by
  unfold srt
  exact List.mergeSort_of_pairwise ((row_ss f k).imp fun h => by simp; omega)
theorem row_ok (f : Int) (k : Nat) (hk : k ≤ 200) (h0 : 0 ≤ f) (h1 : f + (k : Int) ≤ 65536) : pairsErr (row f k) = 0 := by
  refine pairsErr_ok (by simp [row]; omega) fun x hx => ?_
  obtain ⟨i, hi, rfl⟩ := List.mem_map.1 hx
  have := List.mem_range.1 hi
  exact ⟨by omega, by omega⟩

set_option maxHeartbeats 4000000 in
theorem few_a_ok (v : Value) (l : List Int) (fr mn : Int) (w : World) (hv : SlI w v l) (hn : l.length ≤ 9223372036854775807) (hE : pairsErr l = 0) (hf : fr < 0) :
    Calls Try.prog 3 #[v, .int .i64 fr, .int .i64 mn] w fun e w' => e = .returned (.bool true) ∧ Below w.heap.size w w' := by
  have HV := Lib.hid hv; have HN := Lib.hid hn
  clear hv hn
  have hf' : decide (fr < 0) = true := by simpa using hf
  have HEE := Lib.hid hE; clear hE
  obtain ⟨A, c, hAv, _⟩ := HV.out
  subst hAv
  go_enter Try.func3, Try.ntmps3
  go_wp2_with fail
  refine (Pairs_s _ l _ HV.out HN.out).mono ?_
  rintro e w1 ⟨r1, rfl, hq1, hb1⟩
  rw [HEE.out, errV_zero]
  have hpr : pairsRes l = toZ (pairsL (srt l)) := by rw [pairsRes, if_pos HEE.out]
  rw [hpr] at hq1
  obtain ⟨h1, h2, h3, h4⟩ := nums_pairs HEE.out
  have hle := length_expand (pairsL (srt l))
  have HQ1 := Lib.hid hq1; have B := Lib.hid hb1; have HN0 := Lib.hid h1; have HNl := Lib.hid h2
  have HLq : Hid ((toZ (pairsL (srt l))).length ≤ 200) := Lib.hid (by have := pairsL_length l; have := (pairsErr_zero HEE.out).1; simp [toZ]; omega)
  obtain ⟨p, hp⟩ : ∃ p, p = (pairsL (srt l)).length := ⟨_, rfl⟩
  obtain ⟨q, hq⟩ : ∃ q, q = (expand (pairsL (srt l))).length := ⟨_, rfl⟩
  have HPq : Hid ((toZ (pairsL (srt l))).length = p) := Lib.hid (by rw [hp]; simp [toZ])
  have HEq : Hid ((expand (pairsL (srt l))).length = q) := Lib.hid hq.symm
  rw [← hp, ← hq] at hle
  obtain ⟨hle1, hle2⟩ := hle
  have hp200 : p ≤ 200 := by have := HLq.out; rw [HPq.out] at this; exact this
  clear hq1 hb1 hpr h1 h2 h3 h4 hp hq
  obtain ⟨A1, c1, hr1, hrd1⟩ := HQ1.out
  rw [HPq.out] at hr1
  subst hr1
  clear hrd1
  go_wp2_with fail
  refine (Numbers_s _ _ _ HQ1.out (by have := HLq.out; omega)).mono ?_
  rintro e w2 ⟨r2, rfl, hs2, hb2⟩
  rw [HN0.out, errV_zero]
  rw [numsRes, if_pos HN0.out, HNl.out] at hs2
  obtain ⟨A2, c2, hr2, hrd2⟩ := hs2
  rw [HEq.out] at hr2
  subst hr2
  clear hrd2
  have B := Lib.hid (B.out.trans (hb2.mono B.out.size)); clear hb2
  have hc1 : decide (q < p) = false := by simp; omega
  have hc2 : decide (17 * (p : Int) < (q : Int)) = false := by simp; omega
  go_wp2
  go_ret
  exact ⟨rfl, B.out⟩

set_option maxHeartbeats 4000000 in
theorem few_a_no (v : Value) (l : List Int) (fr mn : Int) (w : World) (hv : SlI w v l) (hn : l.length ≤ 9223372036854775807) (hE : pairsErr l ≠ 0) (hf : fr < 0) :
    Calls Try.prog 3 #[v, .int .i64 fr, .int .i64 mn] w fun e w' => e = .returned (.bool true) ∧ Below w.heap.size w w' := by
  have HV := Lib.hid hv; have HN := Lib.hid hn
  clear hv hn
  have hf' : decide (fr < 0) = true := by simpa using hf
  obtain ⟨A, c, hAv, _⟩ := HV.out
  subst hAv
  go_enter Try.func3, Try.ntmps3
  have HE : Hid (∃ k, k ≠ 0 ∧ pairsErr l = k) := Lib.hid ⟨_, hE, rfl⟩
  obtain ⟨k, hk, hkE⟩ := HE.out
  have HK := Lib.hid hkE; clear hkE
  go_wp2_with fail
  refine (Pairs_s _ l _ HV.out HN.out).mono ?_
  rintro e w1 ⟨r1, rfl, hq1, hb1⟩
  rw [HK.out, errV_ne hk]
  obtain ⟨A1, c1, hr1, hrd1⟩ := hq1
  obtain ⟨p, hp⟩ : ∃ p, p = (pairsRes l).length := ⟨_, rfl⟩
  rw [← hp] at hr1
  subst hr1
  have B := Lib.hid hb1
  clear hb1 hrd1 hp hk
  go_wp2
  go_ret
  exact ⟨rfl, B.out⟩

set_option maxHeartbeats 4000000 in
theorem few_b_ok (v : Value) (l : List Int) (fr mn : Int) (w : World) (hv : SlI w v l) (hn : l.length ≤ 9223372036854775807) (hE : pairsErr l = 0) (hf : ¬ fr < 0) (hg : 65536 < fr) :
    Calls Try.prog 3 #[v, .int .i64 fr, .int .i64 mn] w fun e w' => e = .returned (.bool true) ∧ Below w.heap.size w w' := by
  have HV := Lib.hid hv; have HN := Lib.hid hn
  clear hv hn
  have hf' : decide (fr < 0) = false := by simpa using hf
  have HEE := Lib.hid hE; clear hE
  obtain ⟨A, c, hAv, _⟩ := HV.out
  subst hAv
  go_enter Try.func3, Try.ntmps3
  go_wp2_with fail
  refine (Pairs_s _ l _ HV.out HN.out).mono ?_
  rintro e w1 ⟨r1, rfl, hq1, hb1⟩
  rw [HEE.out, errV_zero]
  have hpr : pairsRes l = toZ (pairsL (srt l)) := by rw [pairsRes, if_pos HEE.out]
  rw [hpr] at hq1
  obtain ⟨h1, h2, h3, h4⟩ := nums_pairs HEE.out
  have hle := length_expand (pairsL (srt l))
  have HQ1 := Lib.hid hq1; have B := Lib.hid hb1; have HN0 := Lib.hid h1; have HNl := Lib.hid h2
  have HLq : Hid ((toZ (pairsL (srt l))).length ≤ 200) := Lib.hid (by have := pairsL_length l; have := (pairsErr_zero HEE.out).1; simp [toZ]; omega)
  obtain ⟨p, hp⟩ : ∃ p, p = (pairsL (srt l)).length := ⟨_, rfl⟩
  obtain ⟨q, hq⟩ : ∃ q, q = (expand (pairsL (srt l))).length := ⟨_, rfl⟩
  have HPq : Hid ((toZ (pairsL (srt l))).length = p) := Lib.hid (by rw [hp]; simp [toZ])
  have HEq : Hid ((expand (pairsL (srt l))).length = q) := Lib.hid hq.symm
  rw [← hp, ← hq] at hle
  obtain ⟨hle1, hle2⟩ := hle
  have hp200 : p ≤ 200 := by have := HLq.out; rw [HPq.out] at this; exact this
  clear hq1 hb1 hpr h1 h2 h3 h4 hp hq
  obtain ⟨A1, c1, hr1, hrd1⟩ := HQ1.out
  rw [HPq.out] at hr1
  subst hr1
  clear hrd1
  go_wp2_with fail
  refine (Numbers_s _ _ _ HQ1.out (by have := HLq.out; omega)).mono ?_
  rintro e w2 ⟨r2, rfl, hs2, hb2⟩
  rw [HN0.out, errV_zero]
  rw [numsRes, if_pos HN0.out, HNl.out] at hs2
  obtain ⟨A2, c2, hr2, hrd2⟩ := hs2
  rw [HEq.out] at hr2
  subst hr2
  clear hrd2
  have B := Lib.hid (B.out.trans (hb2.mono B.out.size)); clear hb2
  have hc1 : decide (q < p) = false := by simp; omega
  have hc2 : decide (17 * (p : Int) < (q : Int)) = false := by simp; omega
  go_wp2
  go_ret
  exact ⟨rfl, B.out⟩

set_option maxHeartbeats 4000000 in
theorem few_b_no (v : Value) (l : List Int) (fr mn : Int) (w : World) (hv : SlI w v l) (hn : l.length ≤ 9223372036854775807) (hE : pairsErr l ≠ 0) (hf : ¬ fr < 0) (hg : 65536 < fr) :
    Calls Try.prog 3 #[v, .int .i64 fr, .int .i64 mn] w fun e w' => e = .returned (.bool true) ∧ Below w.heap.size w w' := by
  have HV := Lib.hid hv; have HN := Lib.hid hn
  clear hv hn
  have hf' : decide (fr < 0) = false := by simpa using hf
  obtain ⟨A, c, hAv, _⟩ := HV.out
  subst hAv
  go_enter Try.func3, Try.ntmps3
  have HE : Hid (∃ k, k ≠ 0 ∧ pairsErr l = k) := Lib.hid ⟨_, hE, rfl⟩
  obtain ⟨k, hk, hkE⟩ := HE.out
  have HK := Lib.hid hkE; clear hkE
  go_wp2_with fail
  refine (Pairs_s _ l _ HV.out HN.out).mono ?_
  rintro e w1 ⟨r1, rfl, hq1, hb1⟩
  rw [HK.out, errV_ne hk]
  obtain ⟨A1, c1, hr1, hrd1⟩ := hq1
  obtain ⟨p, hp⟩ : ∃ p, p = (pairsRes l).length := ⟨_, rfl⟩
  rw [← hp] at hr1
  subst hr1
  have B := Lib.hid hb1
  clear hb1 hrd1 hp hk
  go_wp2
  go_ret
  exact ⟨rfl, B.out⟩

set_option maxHeartbeats 4000000 in
theorem few_c_ok (v : Value) (l : List Int) (fr mn : Int) (w : World) (hv : SlI w v l) (hn : l.length ≤ 9223372036854775807) (hE : pairsErr l = 0) (hf : ¬ fr < 0) (hg : ¬ 65536 < fr) (hm : mn < 0) :
    Calls Try.prog 3 #[v, .int .i64 fr, .int .i64 mn] w fun e w' => e = .returned (.bool true) ∧ Below w.heap.size w w' := by
  have HV := Lib.hid hv; have HN := Lib.hid hn
  clear hv hn
  have hf' : decide (fr < 0) = false := by simpa using hf
  have hg' : decide (65536 < fr) = false := by simpa using hg
  have HEE := Lib.hid hE; clear hE
  obtain ⟨A, c, hAv, _⟩ := HV.out
  subst hAv
  go_enter Try.func3, Try.ntmps3
  go_wp2_with fail
  refine (Pairs_s _ l _ HV.out HN.out).mono ?_
  rintro e w1 ⟨r1, rfl, hq1, hb1⟩
  rw [HEE.out, errV_zero]
  have hpr : pairsRes l = toZ (pairsL (srt l)) := by rw [pairsRes, if_pos HEE.out]
  rw [hpr] at hq1
  obtain ⟨h1, h2, h3, h4⟩ := nums_pairs HEE.out
  have hle := length_expand (pairsL (srt l))
  have HQ1 := Lib.hid hq1; have B := Lib.hid hb1; have HN0 := Lib.hid h1; have HNl := Lib.hid h2
  have HLq : Hid ((toZ (pairsL (srt l))).length ≤ 200) := Lib.hid (by have := pairsL_length l; have := (pairsErr_zero HEE.out).1; simp [toZ]; omega)
  obtain ⟨p, hp⟩ : ∃ p, p = (pairsL (srt l)).length := ⟨_, rfl⟩
  obtain ⟨q, hq⟩ : ∃ q, q = (expand (pairsL (srt l))).length := ⟨_, rfl⟩
  have HPq : Hid ((toZ (pairsL (srt l))).length = p) := Lib.hid (by rw [hp]; simp [toZ])
  have HEq : Hid ((expand (pairsL (srt l))).length = q) := Lib.hid hq.symm
  rw [← hp, ← hq] at hle
  obtain ⟨hle1, hle2⟩ := hle
  have hp200 : p ≤ 200 := by have := HLq.out; rw [HPq.out] at this; exact this
  clear hq1 hb1 hpr h1 h2 h3 h4 hp hq
  obtain ⟨A1, c1, hr1, hrd1⟩ := HQ1.out
  rw [HPq.out] at hr1
  subst hr1
  clear hrd1
  go_wp2_with fail
  refine (Numbers_s _ _ _ HQ1.out (by have := HLq.out; omega)).mono ?_
  rintro e w2 ⟨r2, rfl, hs2, hb2⟩
  rw [HN0.out, errV_zero]
  rw [numsRes, if_pos HN0.out, HNl.out] at hs2
  obtain ⟨A2, c2, hr2, hrd2⟩ := hs2
  rw [HEq.out] at hr2
  subst hr2
  clear hrd2
  have B := Lib.hid (B.out.trans (hb2.mono B.out.size)); clear hb2
  have hc1 : decide (q < p) = false := by simp; omega
  have hc2 : decide (17 * (p : Int) < (q : Int)) = false := by simp; omega
  go_wp2
  go_ret
  exact ⟨rfl, B.out⟩

set_option maxHeartbeats 4000000 in
theorem few_c_no (v : Value) (l : List Int) (fr mn : Int) (w : World) (hv : SlI w v l) (hn : l.length ≤ 9223372036854775807) (hE : pairsErr l ≠ 0) (hf : ¬ fr < 0) (hg : ¬ 65536 < fr) (hm : mn < 0) :
    Calls Try.prog 3 #[v, .int .i64 fr, .int .i64 mn] w fun e w' => e = .returned (.bool true) ∧ Below w.heap.size w w' := by
  have HV := Lib.hid hv; have HN := Lib.hid hn
  clear hv hn
  have hf' : decide (fr < 0) = false := by simpa using hf
  have hg' : decide (65536 < fr) = false := by simpa using hg
  obtain ⟨A, c, hAv, _⟩ := HV.out
  subst hAv
  go_enter Try.func3, Try.ntmps3
  have HE : Hid (∃ k, k ≠ 0 ∧ pairsErr l = k) := Lib.hid ⟨_, hE, rfl⟩
  obtain ⟨k, hk, hkE⟩ := HE.out
  have HK := Lib.hid hkE; clear hkE
  go_wp2_with fail
  refine (Pairs_s _ l _ HV.out HN.out).mono ?_
  rintro e w1 ⟨r1, rfl, hq1, hb1⟩
  rw [HK.out, errV_ne hk]
  obtain ⟨A1, c1, hr1, hrd1⟩ := hq1
  obtain ⟨p, hp⟩ : ∃ p, p = (pairsRes l).length := ⟨_, rfl⟩
  rw [← hp] at hr1
  subst hr1
  have B := Lib.hid hb1
  clear hb1 hrd1 hp hk
  go_wp2
  go_ret
  exact ⟨rfl, B.out⟩

set_option maxHeartbeats 4000000 in
theorem few_d_ok (v : Value) (l : List Int) (fr mn : Int) (w : World) (hv : SlI w v l) (hn : l.length ≤ 9223372036854775807) (hE : pairsErr l = 0) (hf : ¬ fr < 0) (hg : ¬ 65536 < fr) (hm : ¬ mn < 0) (hm2 : 200 < mn) :
    Calls Try.prog 3 #[v, .int .i64 fr, .int .i64 mn] w fun e w' => e = .returned (.bool true) ∧ Below w.heap.size w w' := by
  have HV := Lib.hid hv; have HN := Lib.hid hn
  clear hv hn
  have hf' : decide (fr < 0) = false := by simpa using hf
  have hg' : decide (65536 < fr) = false := by simpa using hg
  have hm' : decide (mn < 0) = false := by simpa using hm
  have HEE := Lib.hid hE; clear hE
  obtain ⟨A, c, hAv, _⟩ := HV.out
  subst hAv
  go_enter Try.func3, Try.ntmps3
  go_wp2_with fail
  refine (Pairs_s _ l _ HV.out HN.out).mono ?_
  rintro e w1 ⟨r1, rfl, hq1, hb1⟩
  rw [HEE.out, errV_zero]
  have hpr : pairsRes l = toZ (pairsL (srt l)) := by rw [pairsRes, if_pos HEE.out]
  rw [hpr] at hq1
  obtain ⟨h1, h2, h3, h4⟩ := nums_pairs HEE.out
  have hle := length_expand (pairsL (srt l))
  have HQ1 := Lib.hid hq1; have B := Lib.hid hb1; have HN0 := Lib.hid h1; have HNl := Lib.hid h2
  have HLq : Hid ((toZ (pairsL (srt l))).length ≤ 200) := Lib.hid (by have := pairsL_length l; have := (pairsErr_zero HEE.out).1; simp [toZ]; omega)
  obtain ⟨p, hp⟩ : ∃ p, p = (pairsL (srt l)).length := ⟨_, rfl⟩
  obtain ⟨q, hq⟩ : ∃ q, q = (expand (pairsL (srt l))).length := ⟨_, rfl⟩
  have HPq : Hid ((toZ (pairsL (srt l))).length = p) := Lib.hid (by rw [hp]; simp [toZ])
  have HEq : Hid ((expand (pairsL (srt l))).length = q) := Lib.hid hq.symm
  rw [← hp, ← hq] at hle
  obtain ⟨hle1, hle2⟩ := hle
  have hp200 : p ≤ 200 := by have := HLq.out; rw [HPq.out] at this; exact this
  clear hq1 hb1 hpr h1 h2 h3 h4 hp hq
  obtain ⟨A1, c1, hr1, hrd1⟩ := HQ1.out
  rw [HPq.out] at hr1
  subst hr1
  clear hrd1
  go_wp2_with fail
  refine (Numbers_s _ _ _ HQ1.out (by have := HLq.out; omega)).mono ?_
  rintro e w2 ⟨r2, rfl, hs2, hb2⟩
  rw [HN0.out, errV_zero]
  rw [numsRes, if_pos HN0.out, HNl.out] at hs2
  obtain ⟨A2, c2, hr2, hrd2⟩ := hs2
  rw [HEq.out] at hr2
  subst hr2
  clear hrd2
  have B := Lib.hid (B.out.trans (hb2.mono B.out.size)); clear hb2
  have hc1 : decide (q < p) = false := by simp; omega
  have hc2 : decide (17 * (p : Int) < (q : Int)) = false := by simp; omega
  go_wp2
  go_ret
  exact ⟨rfl, B.out⟩

set_option maxHeartbeats 4000000 in
theorem few_d_no (v : Value) (l : List Int) (fr mn : Int) (w : World) (hv : SlI w v l) (hn : l.length ≤ 9223372036854775807) (hE : pairsErr l ≠ 0) (hf : ¬ fr < 0) (hg : ¬ 65536 < fr) (hm : ¬ mn < 0) (hm2 : 200 < mn) :
    Calls Try.prog 3 #[v, .int .i64 fr, .int .i64 mn] w fun e w' => e = .returned (.bool true) ∧ Below w.heap.size w w' := by
  have HV := Lib.hid hv; have HN := Lib.hid hn
  clear hv hn
  have hf' : decide (fr < 0) = false := by simpa using hf
  have hg' : decide (65536 < fr) = false := by simpa using hg
  have hm' : decide (mn < 0) = false := by simpa using hm
  obtain ⟨A, c, hAv, _⟩ := HV.out
  subst hAv
  go_enter Try.func3, Try.ntmps3
  have HE : Hid (∃ k, k ≠ 0 ∧ pairsErr l = k) := Lib.hid ⟨_, hE, rfl⟩
  obtain ⟨k, hk, hkE⟩ := HE.out
  have HK := Lib.hid hkE; clear hkE
  go_wp2_with fail
  refine (Pairs_s _ l _ HV.out HN.out).mono ?_
  rintro e w1 ⟨r1, rfl, hq1, hb1⟩
  rw [HK.out, errV_ne hk]
  obtain ⟨A1, c1, hr1, hrd1⟩ := hq1
  obtain ⟨p, hp⟩ : ∃ p, p = (pairsRes l).length := ⟨_, rfl⟩
  rw [← hp] at hr1
  subst hr1
  have B := Lib.hid hb1
  clear hb1 hrd1 hp hk
  go_wp2
  go_ret
  exact ⟨rfl, B.out⟩

set_option maxHeartbeats 4000000 in
theorem few_e_ok (v : Value) (l : List Int) (fr mn : Int) (w : World) (hv : SlI w v l) (hn : l.length ≤ 9223372036854775807) (hE : pairsErr l = 0) (hf : ¬ fr < 0) (hg : ¬ 65536 < fr) (hm : ¬ mn < 0) (hm2 : ¬ 200 < mn) (hs : 65536 < fr + mn) :
    Calls Try.prog 3 #[v, .int .i64 fr, .int .i64 mn] w fun e w' => e = .returned (.bool true) ∧ Below w.heap.size w w' := by
  have HV := Lib.hid hv; have HN := Lib.hid hn
  clear hv hn
  have hf' : decide (fr < 0) = false := by simpa using hf
  have hg' : decide (65536 < fr) = false := by simpa using hg
  have hm' : decide (mn < 0) = false := by simpa using hm
  have hm2' : decide (200 < mn) = false := by simpa using hm2
  have HEE := Lib.hid hE; clear hE
  obtain ⟨A, c, hAv, _⟩ := HV.out
  subst hAv
  go_enter Try.func3, Try.ntmps3
  go_wp2_with fail
  refine (Pairs_s _ l _ HV.out HN.out).mono ?_
  rintro e w1 ⟨r1, rfl, hq1, hb1⟩
  rw [HEE.out, errV_zero]
  have hpr : pairsRes l = toZ (pairsL (srt l)) := by rw [pairsRes, if_pos HEE.out]
  rw [hpr] at hq1
  obtain ⟨h1, h2, h3, h4⟩ := nums_pairs HEE.out
  have hle := length_expand (pairsL (srt l))
  have HQ1 := Lib.hid hq1; have B := Lib.hid hb1; have HN0 := Lib.hid h1; have HNl := Lib.hid h2
  have HLq : Hid ((toZ (pairsL (srt l))).length ≤ 200) := Lib.hid (by have := pairsL_length l; have := (pairsErr_zero HEE.out).1; simp [toZ]; omega)
  obtain ⟨p, hp⟩ : ∃ p, p = (pairsL (srt l)).length := ⟨_, rfl⟩
  obtain ⟨q, hq⟩ : ∃ q, q = (expand (pairsL (srt l))).length := ⟨_, rfl⟩
  have HPq : Hid ((toZ (pairsL (srt l))).length = p) := Lib.hid (by rw [hp]; simp [toZ])
  have HEq : Hid ((expand (pairsL (srt l))).length = q) := Lib.hid hq.symm
  rw [← hp, ← hq] at hle
  obtain ⟨hle1, hle2⟩ := hle
  have hp200 : p ≤ 200 := by have := HLq.out; rw [HPq.out] at this; exact this
  clear hq1 hb1 hpr h1 h2 h3 h4 hp hq
  obtain ⟨A1, c1, hr1, hrd1⟩ := HQ1.out
  rw [HPq.out] at hr1
  subst hr1
  clear hrd1
  go_wp2_with fail
  refine (Numbers_s _ _ _ HQ1.out (by have := HLq.out; omega)).mono ?_
  rintro e w2 ⟨r2, rfl, hs2, hb2⟩
  rw [HN0.out, errV_zero]
  rw [numsRes, if_pos HN0.out, HNl.out] at hs2
  obtain ⟨A2, c2, hr2, hrd2⟩ := hs2
  rw [HEq.out] at hr2
  subst hr2
  clear hrd2
  have B := Lib.hid (B.out.trans (hb2.mono B.out.size)); clear hb2
  have hc1 : decide (q < p) = false := by simp; omega
  have hc2 : decide (17 * (p : Int) < (q : Int)) = false := by simp; omega
  go_wp2
  go_ret
  exact ⟨rfl, B.out⟩

set_option maxHeartbeats 4000000 in
theorem few_e_no (v : Value) (l : List Int) (fr mn : Int) (w : World) (hv : SlI w v l) (hn : l.length ≤ 9223372036854775807) (hE : pairsErr l ≠ 0) (hf : ¬ fr < 0) (hg : ¬ 65536 < fr) (hm : ¬ mn < 0) (hm2 : ¬ 200 < mn) (hs : 65536 < fr + mn) :
    Calls Try.prog 3 #[v, .int .i64 fr, .int .i64 mn] w fun e w' => e = .returned (.bool true) ∧ Below w.heap.size w w' := by
  have HV := Lib.hid hv; have HN := Lib.hid hn
  clear hv hn
  have hf' : decide (fr < 0) = false := by simpa using hf
  have hg' : decide (65536 < fr) = false := by simpa using hg
  have hm' : decide (mn < 0) = false := by simpa using hm
  have hm2' : decide (200 < mn) = false := by simpa using hm2
  obtain ⟨A, c, hAv, _⟩ := HV.out
  subst hAv
  go_enter Try.func3, Try.ntmps3
  have HE : Hid (∃ k, k ≠ 0 ∧ pairsErr l = k) := Lib.hid ⟨_, hE, rfl⟩
  obtain ⟨k, hk, hkE⟩ := HE.out
  have HK := Lib.hid hkE; clear hkE
  go_wp2_with fail
  refine (Pairs_s _ l _ HV.out HN.out).mono ?_
  rintro e w1 ⟨r1, rfl, hq1, hb1⟩
  rw [HK.out, errV_ne hk]
  obtain ⟨A1, c1, hr1, hrd1⟩ := hq1
  obtain ⟨p, hp⟩ : ∃ p, p = (pairsRes l).length := ⟨_, rfl⟩
  rw [← hp] at hr1
  subst hr1
  have B := Lib.hid hb1
  clear hb1 hrd1 hp hk
  go_wp2
  go_ret
  exact ⟨rfl, B.out⟩

set_option maxHeartbeats 4000000 in
theorem few_good_ok (v : Value) (l : List Int) (fr mn : Int) (w : World) (hv : SlI w v l) (hn : l.length ≤ 9223372036854775807) (hE : pairsErr l = 0) (hf : ¬ fr < 0) (hg : ¬ 65536 < fr) (hm : ¬ mn < 0) (hm2 : ¬ 200 < mn) (hs : ¬ 65536 < fr + mn) :
    Calls Try.prog 3 #[v, .int .i64 fr, .int .i64 mn] w fun e w' => e = .returned (.bool true) ∧ Below w.heap.size w w' := by
  have HV := Lib.hid hv; have HN := Lib.hid hn
  clear hv hn
  have hf' : decide (fr < 0) = false := by simpa using hf
  have hg' : decide (65536 < fr) = false := by simpa using hg
  have hm' : decide (mn < 0) = false := by simpa using hm
  have hm2' : decide (200 < mn) = false := by simpa using hm2
  have hs' : decide (65536 < fr + mn) = false := by simpa using hs
  have HEE := Lib.hid hE; clear hE
  obtain ⟨A, c, hAv, _⟩ := HV.out
  subst hAv
  go_enter Try.func3, Try.ntmps3
  go_wp2_with fail
  refine (Pairs_s _ l _ HV.out HN.out).mono ?_
  rintro e w1 ⟨r1, rfl, hq1, hb1⟩
  rw [HEE.out, errV_zero]
  have hpr : pairsRes l = toZ (pairsL (srt l)) := by rw [pairsRes, if_pos HEE.out]
  rw [hpr] at hq1
  obtain ⟨h1, h2, h3, h4⟩ := nums_pairs HEE.out
  have hle := length_expand (pairsL (srt l))
  have HQ1 := Lib.hid hq1; have B := Lib.hid hb1; have HN0 := Lib.hid h1; have HNl := Lib.hid h2
  have HLq : Hid ((toZ (pairsL (srt l))).length ≤ 200) := Lib.hid (by have := pairsL_length l; have := (pairsErr_zero HEE.out).1; simp [toZ]; omega)
  obtain ⟨p, hp⟩ : ∃ p, p = (pairsL (srt l)).length := ⟨_, rfl⟩
  obtain ⟨q, hq⟩ : ∃ q, q = (expand (pairsL (srt l))).length := ⟨_, rfl⟩
  have HPq : Hid ((toZ (pairsL (srt l))).length = p) := Lib.hid (by rw [hp]; simp [toZ])
  have HEq : Hid ((expand (pairsL (srt l))).length = q) := Lib.hid hq.symm
  rw [← hp, ← hq] at hle
  obtain ⟨hle1, hle2⟩ := hle
  have hp200 : p ≤ 200 := by have := HLq.out; rw [HPq.out] at this; exact this
  clear hq1 hb1 hpr h1 h2 h3 h4 hp hq
  obtain ⟨A1, c1, hr1, hrd1⟩ := HQ1.out
  rw [HPq.out] at hr1
  subst hr1
  clear hrd1
  go_wp2_with fail
  refine (Numbers_s _ _ _ HQ1.out (by have := HLq.out; omega)).mono ?_
  rintro e w2 ⟨r2, rfl, hs2, hb2⟩
  rw [HN0.out, errV_zero]
  rw [numsRes, if_pos HN0.out, HNl.out] at hs2
  obtain ⟨A2, c2, hr2, hrd2⟩ := hs2
  rw [HEq.out] at hr2
  subst hr2
  clear hrd2
  have B := Lib.hid (B.out.trans (hb2.mono B.out.size)); clear hb2
  have hc1 : decide (q < p) = false := by simp; omega
  have hc2 : decide (17 * (p : Int) < (q : Int)) = false := by simp; omega
  obtain ⟨mk, rfl⟩ := Int.eq_ofNat_of_zero_le (show 0 ≤ mn by omega)
  have hmk : mk ≤ 200 := by omega
  have HRow : Hid (pairsErr (row fr mk) = 0) := Lib.hid (row_ok fr mk hmk (by omega) (by omega))
  obtain ⟨i0, hi, hz0, hz1, hz2⟩ := info_parts infoI
  go_wp2_with fail
  go_loopw [11, 12] (fun sl i wz => ∃ (k cc : Nat) (A' : Option Addr), k ≤ mk ∧ i = .int .i64 k ∧ sl = .slice A' k cc ∧ wz.ownsRow w.heap.size 3 1 (.slice A' k cc) k (icells (row fr k)) ∧ Below w.heap.size w wz) (fun _ i _ => mk - (intOf i).toNat)
  case atStart => exact ⟨0, 0, none, by omega, rfl, rfl, World.ownsRow_nil _ _ _ _, B.out⟩
  case round =>
    obtain ⟨k, cc, A', hk, rfl, rfl, hown, hb⟩ := hrel
    have HO := Lib.hid hown; have HB := Lib.hid hb
    clear hown hb
    by_cases hlt : k < mk
    · go_wp2_with (at_builtin; refine wpList_append_own _ rfl _ _ 22 rfl w.heap.size 3 i0 _ 1 8 Try.underlying22 hi hz0 hz1 hz2 rfl (by decide) _ _ _ rfl (own_below HO.out ((Below.refl wr.heap.size wr).alloc (Nat.le_refl _) (.cells #[.int .i64 (fr + (k : Int))] 3))) ⟨wr.heap.size, 0, none⟩ 1 1 [.int .i64 (fr + (k : Int))] rfl rfl (one_new _ _ _ _ rfl) (by simp [Value.oneCell']) (by unfold maxLen; omega) (by omega) (le_alloc HB.out.size) ?_; intro v' w7 hown7 hgr7 hnil7)
      obtain ⟨A8, c8, hv8⟩ := own_slice hown7
      subst hv8
      have HO7 : Hid (w7.ownsRow w.heap.size 3 1 (.slice A8 (k + 1) c8) (k + 1) (icells (row fr (k + 1)))) := Lib.hid (by rw [row_succ, icells_append]; exact hown7)
      have HB7 : Hid (Below w.heap.size w w7) := Lib.hid ((HB.out.alloc HB.out.size _).grown hgr7 (le_alloc HB.out.size) (fun j hj => (HO.out.lt j hj).1))
      clear hown7 hgr7 hnil7
      go_wp2
      go_roundw
      case rel => exact ⟨k + 1, c8, A8, by omega, by go_num, rfl, HO7.out, HB7.out⟩
      case measure => simp [intOf]; omega
    · obtain rfl : k = mk := by omega
      have hrl : (row fr k).length = k := by simp [row]
      have HSr : Hid (SlI wr (.slice A' k cc) (row fr k)) := Lib.hid (SlI.own HO.out)
      go_wp2_with fail
      refine (Pairs_s _ (row fr k) _ HSr.out (by rw [hrl]; omega)).mono ?_
      rintro e w3 ⟨r3, rfl, hq3, hb3⟩
      rw [HRow.out, errV_zero]
      rw [pairsRes, if_pos HRow.out, srt_row] at hq3
      obtain ⟨h1, h2, h3, h4⟩ := nums_pairs HRow.out
      rw [srt_row] at h1 h2 h3 h4
      have hpl : (toZ (pairsL (row fr k))).length = (k + 16) / 17 := by rw [toZ, List.length_map]; exact pairsL_row_length fr k
      have hex : expand (pairsL (row fr k)) = row fr k := SS_ext h3 (row_ss fr k) h4
      rw [hex] at h2
      have HQ3 := Lib.hid hq3; have HN0 := Lib.hid h1; have HNl := Lib.hid h2; have HPl := Lib.hid hpl; have HB3 := Lib.hid (HB.out.trans (hb3.mono HB.out.size)); have HSr3 := Lib.hid (HSr.out.below hb3)
      clear hq3 hb3 h1 h2 h3 h4 hpl hex hrl
      obtain ⟨A3, c3, hr3, hrd3⟩ := HQ3.out
      rw [HPl.out] at hr3
      subst hr3
      clear hrd3
      go_wp2_with fail
      refine (Numbers_s _ _ _ HQ3.out (by rw [HPl.out]; omega)).mono ?_
      rintro e w4 ⟨r4, rfl, hs4, hb4⟩
      rw [HN0.out, errV_zero]
      rw [numsRes, if_pos HN0.out, HNl.out] at hs4
      have HS4 := Lib.hid hs4; have HSr4 := Lib.hid (HSr3.out.below hb4); have HB4 := Lib.hid (HB3.out.trans (hb4.mono HB3.out.size))
      clear hs4 hb4
      obtain ⟨A4, c4, hr4, hrd4⟩ := HS4.out
      have hrl : (row fr k).length = k := by simp [row]
      rw [hrl] at hr4
      subst hr4
      clear hrd4 hrl
      go_wp2_with fail
      refine (Ints_s _ _ (row fr k) _ HS4.out HSr4.out (by simp [row]; omega)).mono ?_
      rintro e w5 ⟨rfl, hb5⟩
      have HB5 := Lib.hid (HB4.out.trans (hb5.mono HB4.out.size))
      clear hb5
      go_wp2
      go_ret
      exact ⟨by simp, HB5.out⟩

set_option maxHeartbeats 4000000 in
theorem few_good_no (v : Value) (l : List Int) (fr mn : Int) (w : World) (hv : SlI w v l) (hn : l.length ≤ 9223372036854775807) (hE : pairsErr l ≠ 0) (hf : ¬ fr < 0) (hg : ¬ 65536 < fr) (hm : ¬ mn < 0) (hm2 : ¬ 200 < mn) (hs : ¬ 65536 < fr + mn) :
    Calls Try.prog 3 #[v, .int .i64 fr, .int .i64 mn] w fun e w' => e = .returned (.bool true) ∧ Below w.heap.size w w' := by
  have HV := Lib.hid hv; have HN := Lib.hid hn
  clear hv hn
  have hf' : decide (fr < 0) = false := by simpa using hf
  have hg' : decide (65536 < fr) = false := by simpa using hg
  have hm' : decide (mn < 0) = false := by simpa using hm
  have hm2' : decide (200 < mn) = false := by simpa using hm2
  have hs' : decide (65536 < fr + mn) = false := by simpa using hs
  obtain ⟨A, c, hAv, _⟩ := HV.out
  subst hAv
  go_enter Try.func3, Try.ntmps3
  have HE : Hid (∃ k, k ≠ 0 ∧ pairsErr l = k) := Lib.hid ⟨_, hE, rfl⟩
  obtain ⟨k, hk, hkE⟩ := HE.out
  have HK := Lib.hid hkE; clear hkE
  go_wp2_with fail
  refine (Pairs_s _ l _ HV.out HN.out).mono ?_
  rintro e w1 ⟨r1, rfl, hq1, hb1⟩
  rw [HK.out, errV_ne hk]
  obtain ⟨A1, c1, hr1, hrd1⟩ := hq1
  obtain ⟨p, hp⟩ : ∃ p, p = (pairsRes l).length := ⟨_, rfl⟩
  rw [← hp] at hr1
  subst hr1
  have B := Lib.hid hb1
  clear hb1 hrd1 hp hk
  obtain ⟨mk, rfl⟩ := Int.eq_ofNat_of_zero_le (show 0 ≤ mn by omega)
  have hmk : mk ≤ 200 := by omega
  have HRow : Hid (pairsErr (row fr mk) = 0) := Lib.hid (row_ok fr mk hmk (by omega) (by omega))
  obtain ⟨i0, hi, hz0, hz1, hz2⟩ := info_parts infoI
  go_wp2_with fail
  go_loopw [11, 12] (fun sl i wz => ∃ (k cc : Nat) (A' : Option Addr), k ≤ mk ∧ i = .int .i64 k ∧ sl = .slice A' k cc ∧ wz.ownsRow w.heap.size 3 1 (.slice A' k cc) k (icells (row fr k)) ∧ Below w.heap.size w wz) (fun _ i _ => mk - (intOf i).toNat)
  case atStart => exact ⟨0, 0, none, by omega, rfl, rfl, World.ownsRow_nil _ _ _ _, B.out⟩
  case round =>
    obtain ⟨k, cc, A', hk, rfl, rfl, hown, hb⟩ := hrel
    have HO := Lib.hid hown; have HB := Lib.hid hb
    clear hown hb
    by_cases hlt : k < mk
    · go_wp2_with (at_builtin; refine wpList_append_own _ rfl _ _ 22 rfl w.heap.size 3 i0 _ 1 8 Try.underlying22 hi hz0 hz1 hz2 rfl (by decide) _ _ _ rfl (own_below HO.out ((Below.refl wr.heap.size wr).alloc (Nat.le_refl _) (.cells #[.int .i64 (fr + (k : Int))] 3))) ⟨wr.heap.size, 0, none⟩ 1 1 [.int .i64 (fr + (k : Int))] rfl rfl (one_new _ _ _ _ rfl) (by simp [Value.oneCell']) (by unfold maxLen; omega) (by omega) (le_alloc HB.out.size) ?_; intro v' w7 hown7 hgr7 hnil7)
      obtain ⟨A8, c8, hv8⟩ := own_slice hown7
      subst hv8
      have HO7 : Hid (w7.ownsRow w.heap.size 3 1 (.slice A8 (k + 1) c8) (k + 1) (icells (row fr (k + 1)))) := Lib.hid (by rw [row_succ, icells_append]; exact hown7)
      have HB7 : Hid (Below w.heap.size w w7) := Lib.hid ((HB.out.alloc HB.out.size _).grown hgr7 (le_alloc HB.out.size) (fun j hj => (HO.out.lt j hj).1))
      clear hown7 hgr7 hnil7
      go_wp2
      go_roundw
      case rel => exact ⟨k + 1, c8, A8, by omega, by go_num, rfl, HO7.out, HB7.out⟩
      case measure => simp [intOf]; omega
    · obtain rfl : k = mk := by omega
      have hrl : (row fr k).length = k := by simp [row]
      have HSr : Hid (SlI wr (.slice A' k cc) (row fr k)) := Lib.hid (SlI.own HO.out)
      go_wp2_with fail
      refine (Pairs_s _ (row fr k) _ HSr.out (by rw [hrl]; omega)).mono ?_
      rintro e w3 ⟨r3, rfl, hq3, hb3⟩
      rw [HRow.out, errV_zero]
      rw [pairsRes, if_pos HRow.out, srt_row] at hq3
      obtain ⟨h1, h2, h3, h4⟩ := nums_pairs HRow.out
      rw [srt_row] at h1 h2 h3 h4
      have hpl : (toZ (pairsL (row fr k))).length = (k + 16) / 17 := by rw [toZ, List.length_map]; exact pairsL_row_length fr k
      have hex : expand (pairsL (row fr k)) = row fr k := SS_ext h3 (row_ss fr k) h4
      rw [hex] at h2
      have HQ3 := Lib.hid hq3; have HN0 := Lib.hid h1; have HNl := Lib.hid h2; have HPl := Lib.hid hpl; have HB3 := Lib.hid (HB.out.trans (hb3.mono HB.out.size)); have HSr3 := Lib.hid (HSr.out.below hb3)
      clear hq3 hb3 h1 h2 h3 h4 hpl hex hrl
      obtain ⟨A3, c3, hr3, hrd3⟩ := HQ3.out
      rw [HPl.out] at hr3
      subst hr3
      clear hrd3
      go_wp2_with fail
      refine (Numbers_s _ _ _ HQ3.out (by rw [HPl.out]; omega)).mono ?_
      rintro e w4 ⟨r4, rfl, hs4, hb4⟩
      rw [HN0.out, errV_zero]
      rw [numsRes, if_pos HN0.out, HNl.out] at hs4
      have HS4 := Lib.hid hs4; have HSr4 := Lib.hid (HSr3.out.below hb4); have HB4 := Lib.hid (HB3.out.trans (hb4.mono HB3.out.size))
      clear hs4 hb4
      obtain ⟨A4, c4, hr4, hrd4⟩ := HS4.out
      have hrl : (row fr k).length = k := by simp [row]
      rw [hrl] at hr4
      subst hr4
      clear hrd4 hrl
      go_wp2_with fail
      refine (Ints_s _ _ (row fr k) _ HS4.out HSr4.out (by simp [row]; omega)).mono ?_
      rintro e w5 ⟨rfl, hb5⟩
      have HB5 := Lib.hid (HB4.out.trans (hb5.mono HB4.out.size))
      clear hb5
      go_wp2
      go_ret
      exact ⟨by simp, HB5.out⟩

theorem few_any (v : Value) (l : List Int) (fr mn : Int) (w : World) (hv : SlI w v l) (hn : l.length ≤ 9223372036854775807) :
    Calls Try.prog 3 #[v, .int .i64 fr, .int .i64 mn] w fun e w' => e = .returned (.bool true) ∧ Below w.heap.size w w' := by
  by_cases hE : pairsErr l = 0
  · by_cases hf : fr < 0
    · exact few_a_ok v l fr mn w hv hn hE hf
    by_cases hg : 65536 < fr
    · exact few_b_ok v l fr mn w hv hn hE hf hg
    by_cases hm : mn < 0
    · exact few_c_ok v l fr mn w hv hn hE hf hg hm
    by_cases hm2 : 200 < mn
    · exact few_d_ok v l fr mn w hv hn hE hf hg hm hm2
    by_cases hs : 65536 < fr + mn
    · exact few_e_ok v l fr mn w hv hn hE hf hg hm hm2 hs
    exact few_good_ok v l fr mn w hv hn hE hf hg hm hm2 hs
  · by_cases hf : fr < 0
    · exact few_a_no v l fr mn w hv hn hE hf
    by_cases hg : 65536 < fr
    · exact few_b_no v l fr mn w hv hn hE hf hg
    by_cases hm : mn < 0
    · exact few_c_no v l fr mn w hv hn hE hf hg hm
    by_cases hm2 : 200 < mn
    · exact few_d_no v l fr mn w hv hn hE hf hg hm hm2
    by_cases hs : 65536 < fr + mn
    · exact few_e_no v l fr mn w hv hn hE hf hg hm hm2 hs
    exact few_good_no v l fr mn w hv hn hE hf hg hm hm2 hs
end Go.Proofs.Ytpaahhanjjjieaa
