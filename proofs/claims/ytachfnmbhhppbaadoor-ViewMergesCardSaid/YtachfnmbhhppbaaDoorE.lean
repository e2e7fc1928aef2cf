/- slices.Insert in the middle where there is no room; all of it. -/
import Derived.Test.YtachfnmbhhppbaaDoorD
namespace Go.Proofs.YtachfnmbhhppbaaDoor
set_option maxRecDepth 100000
open Go.RowKit

theorem grow_cells (l : List Mem) (R : List Value) (i n G : Nat) (m : Mem) (hl : l.length = n) (ht : R.take (i * 3) = mcells (l.take i)) (hc : R.length = G * 3) (hi : i < n) (hG : n + 1 ≤ G) :
    (splice (splice R (i * 3) (mcells [m])) ((i + 1) * 3) (mcells (l.drop i))).take ((n + 1) * 3) = mcells (ins l i m) := by
  have hd : (mcells (l.drop i)).length = (n - i) * 3 := by rw [mcells_length, List.length_drop, hl]
  have hA : (mcells (l.take i)).length = i * 3 := by rw [mcells_length, List.length_take]; omega
  have hm3 : (mcells [m]).length = 3 := by rw [mcells_length]; rfl
  have e1 : splice R (i * 3) (mcells [m]) = mcells (l.take i) ++ (mcells [m] ++ R.drop (i * 3 + 3)) := by rw [splice, hm3, ht]
  have e2 : (splice R (i * 3) (mcells [m])).take ((i + 1) * 3) = mcells (l.take i) ++ mcells [m] := by
    rw [e1, ← List.append_assoc]; exact List.take_left' (by rw [List.length_append, hA, hm3]; omega)
  have e4 : mcells (ins l i m) = mcells (l.take i) ++ mcells [m] ++ mcells (l.drop i) := by
    rw [ins, mcells_append, show m :: l.drop i = [m] ++ l.drop i from rfl, mcells_append, List.append_assoc]
  rw [splice, e2, e4, ← List.append_assoc (mcells (l.take i) ++ mcells [m])]
  exact List.take_left' (by simp only [List.length_append, hd, hA, hm3]; omega)

set_option maxHeartbeats 800000 in
theorem insert_grow (base n i cap g vb vc : Nat) (l : List Mem) (m : Mem) (w : World) (hown : w.ownsRow base 30 3 (.slice (some ⟨g, 0, none⟩) n cap) n (mcells l)) (hvb : w.heap[vb]? = some (mblk m)) (hn : n ≤ 1000) (hi : i < n) (hroom : cap < n + 1) (hbase : base ≤ w.heap.size) :
    Calls Tryd.prog 23 #[.slice (some ⟨g, 0, none⟩) n cap, .int .i64 i, .slice (some ⟨vb, 0, none⟩) 1 vc] w fun e w' => ∃ v', e = .returned v' ∧ w'.ownsRow base 30 3 v' (n + 1) (mcells (ins l i m)) ∧ w.grownBy w' (some g) := by
  obtain ⟨i0, hi0, hz0, hz1, hz2⟩ := info_parts info28
  have hs3 : (Tryd.prog.info? 30).map (·.size) = some 3 := by rw [hi0]; simp [hz1]
  rcases hown.2 with ⟨h, _⟩ | ⟨g', cap', cur, hv, hbg, hg, hnc, hcm, hcs, htake⟩
  · cases h
  cases hv
  have hlen : l.length = n := by have := hown.1; rw [mcells_length] at this; omega
  have hgw : g < w.heap.size := (Array.getElem?_eq_some_iff.1 hg).1
  have hvw : vb < w.heap.size := (Array.getElem?_eq_some_iff.1 hvb).1
  have HV := Lib.hid hvb
  have HG := Lib.hid hg
  have HT := Lib.hid htake
  have HC := Lib.hid hcs
  have HLn := Lib.hid hlen
  obtain ⟨G, hG⟩ : ∃ G, G = grownCap w (n + 1) cap 30 := ⟨_, rfl⟩
  have hG1 : n + 1 ≤ G := by rw [hG]; exact grownCap_ge w _ _ _
  have hG2 : G ≤ maxLen := by rw [hG]; exact grownCap_le_maxLen w _ _ _ (by unfold maxLen; omega)
  obtain ⟨R, hR⟩ : ∃ R : Array Value, R = (mcells (l.take i)).toArray ++ Builtin.zeroCells (Value.agg #[.int .i64 0, .int .i64 0, .bool false]).cells (n + 1 - i) ++ Builtin.zeroCells (Value.agg #[.int .i64 0, .int .i64 0, .bool false]).cells (G - (n + 1)) := ⟨_, rfl⟩
  have hRs : R.size = G * 3 := by
    rw [hR]
    simp only [Array.size_append, List.size_toArray, size_zeroCells, mcells_length, List.length_take, hlen]
    show min i n * 3 + (n + 1 - i) * 3 + (G - (n + 1)) * 3 = G * 3
    omega
  have hRt : R.toList.take (i * 3) = mcells (l.take i) := by
    rw [hR]
    simp only [Array.toList_append, List.append_assoc]
    exact List.take_left' (by rw [mcells_length, List.length_take]; omega)
  have hold : (Builtin.firstCells i0.size i (.slice (some ⟨g, 0, none⟩) i cap)).run Tryd.prog w.drew = .ok (mcells (l.take i)).toArray w.drew := by
    rw [hz1]
    refine run_firstCells_some w.drew 3 i ⟨g, 0, none⟩ i cap (mcells (l.take i)) (by rw [mcells_length, List.length_take]; omega) (fun j u hu => ?_)
    have e : (⟨g, 0, none⟩ : Addr).add j = ⟨g, j, none⟩ := by unfold Addr.add; split <;> simp_all
    rw [e]
    have hg' : w.drew.heap[g]? = some (.cells cur 30 (0, 0)) := hg
    simp only [World.cell?, hg']
    rw [← mcells_take, ← htake, List.take_take, List.getElem?_take] at hu
    split at hu
    · simpa using hu
    · cases hu
  have hkk : (n : Int) + 1 - (i : Int) = ((n + 1 - i : Nat) : Int) := by omega
  have hik : i + (n + 1 - i) = n + 1 := by omega
  have hrz : ∀ ty, (Builtin.append_ #[22, 3] ty #[.slice (some ⟨g, 0, none⟩) i cap, .int .i64 ((n : Int) + 1 - (i : Int))]).run Tryd.prog w = .ok (.slice (some ⟨w.heap.size, 0, none⟩) (n + 1) G) (w.drew.alloc (.cells R 30)) := fun ty => by
    have h := Lib.run_append_grow_zeros w 22 3 ty 30 i0 _ .i64 .i64 Tryd.underlying22 Tryd.underlying3 hi0 hz0 (some ⟨g, 0, none⟩) i cap (mcells (l.take i)) hold (n + 1 - i) (by omega) (by omega) (by omega) (by omega) (by rw [hz2]; omega) (by rw [hz2, hik]; exact growslice_fits (by omega) (by omega))
    rw [hik, ← hG, ← hR] at h
    rw [hkk]
    exact h
  have hw0 : ((i : Int) == (n : Int)) = false := by rw [beq_eq_false_iff_ne]; omega
  have hgt : decide ((cap : Int) < (n : Int) + 1) = true := by simp; omega
  have hin : i ≤ n := by omega
  have hGi : ¬ (G = i) := by omega
  have hGi1 : ¬ (G = i + 1) := by omega
  have hw1 : IntKind.i64.wrap ((i : Int) + 1) = (i : Int) + 1 := IntWalk.i64_in _ (by omega)
  have hb1 : (0 : Int) ≤ (i : Int) + 1 := by omega
  have htn : ((i : Int) + 1).toNat = i + 1 := by omega
  have hb5 : (i : Int) ≤ (n : Int) + 1 := by omega
  have hb6 : i ≤ n + 1 := by omega
  have hci : ¬ (cap = i) := by omega
  obtain ⟨W1, hW1⟩ : ∃ W1, W1 = w.drew.alloc (.cells R 30) := ⟨_, rfl⟩
  rw [← hW1] at hrz
  have hg1 : W1.heap[w.heap.size]? = some (.cells R 30 (0, 0)) := by rw [hW1]; exact heap_alloc_new w.drew _
  have hv1 : W1.heap[vb]? = some (mblk m) := by rw [hW1]; exact (Below.heap_alloc w.drew _ vb hvw).trans hvb
  have ho1 : W1.heap[g]? = some (.cells cur 30 (0, 0)) := by rw [hW1]; exact (Below.heap_alloc w.drew _ g hgw).trans hg
  have hgr1 : w.grownBy W1 (some g) := by rw [hW1]; exact grownBy_alloc (grownBy_drew (World.grownBy.refl w _)) _
  have hcpA : ∀ ty dc, (Builtin.copy_ #[22, 22] ty #[.slice (some ⟨w.heap.size, i * 3, none⟩) (n + 1 - i) dc, .slice (some ⟨vb, 0, none⟩) 1 vc]).run Tryd.prog W1 = .ok (goInt (Nat.min 1 (n + 1 - i))) (W1.setRow w.heap.size (splice R.toList (i * 3) (mcells [m])).toArray) := fun ty dc => by
    exact run_copy_n W1 22 22 ty 30 3 w.heap.size (i * 3) (n + 1 - i) dc ⟨vb, 0, none⟩ 1 vc R 30 (mcells [m]) Tryd.underlying22 hs3 hg1 (by rw [mcells_length, show Nat.min 1 (n + 1 - i) = 1 from Nat.min_eq_left (by omega)]; rfl) (news_at W1 vb m hv1) (by rw [mcells_length]; simp; omega) (one_mcells _)
  obtain ⟨c1, hc1⟩ : ∃ c1, c1 = splice R.toList (i * 3) (mcells [m]) := ⟨_, rfl⟩
  have hm3 : (mcells [m]).length = 3 := by rw [mcells_length]; rfl
  have hRl : R.toList.length = G * 3 := by rw [Array.length_toList, hRs]
  have hc1l : c1.length = G * 3 := by rw [hc1, length_splice _ _ _ (by omega), hRl]
  rw [← hc1] at hcpA
  obtain ⟨W2, hW2⟩ : ∃ W2, W2 = W1.setRow w.heap.size c1.toArray := ⟨_, rfl⟩
  rw [← hW2] at hcpA
  have hg2 : W2.drew.heap[w.heap.size]? = some (.cells c1.toArray 30 (0, 0)) := by rw [hW2]; exact setRow_heap W1 _ R c1.toArray 30 (0, 0) hg1
  have ho2 : W2.drew.heap[g]? = some (.cells cur 30 (0, 0)) := by rw [hW2]; exact (setRow_other W1 _ g _ (by omega)).trans ho1
  have hgr2 : w.grownBy W2.drew (some g) := by rw [hW2]; exact grownBy_drew (grownBy_setRow_new hgr1 (Nat.le_refl _) _)
  have hdl : (mcells (l.drop i)).length = (n - i) * 3 := by rw [mcells_length, List.length_drop, hlen]
  have src : ∀ j u, (mcells (l.drop i))[j]? = some u → W2.drew.cell? ((⟨g, i * 3, none⟩ : Addr).add j) = some u := by
    intro j u hu
    have e : (⟨g, i * 3, none⟩ : Addr).add j = ⟨g, i * 3 + j, none⟩ := by unfold Addr.add; split <;> simp_all
    rw [e]
    have hj : j < (n - i) * 3 := by have := (List.getElem?_eq_some_iff.1 hu).1; omega
    simp only [World.cell?, ho2]
    rw [← mcells_drop, List.getElem?_drop, ← htake, List.getElem?_take, if_pos (by omega)] at hu
    simpa using hu
  have hcpB : ∀ ty dc sc, (Builtin.copy_ #[22, 22] ty #[.slice (some ⟨w.heap.size, (i + 1) * 3, none⟩) (n - i) dc, .slice (some ⟨g, i * 3, none⟩) (n - i) sc]).run Tryd.prog W2.drew = .ok (goInt (Nat.min (n - i) (n - i))) (W2.drew.setRow w.heap.size (splice c1 ((i + 1) * 3) (mcells (l.drop i))).toArray) := fun ty dc sc => by
    have e := run_copy_n W2.drew 22 22 ty 30 3 w.heap.size ((i + 1) * 3) (n - i) dc ⟨g, i * 3, none⟩ (n - i) sc c1.toArray 30 (mcells (l.drop i)) Tryd.underlying22 hs3 hg2 (by rw [hdl, show Nat.min (n - i) (n - i) = n - i from Nat.min_self _]) src (by rw [hdl, List.size_toArray, hc1l]; omega) (one_mcells _)
    simpa using e
  have hfin := grow_cells l R.toList i n G m hlen hRt (by rw [Array.length_toList, hRs]) hi hG1
  rw [← hc1] at hfin
  have HF := Lib.hid hfin; have HG2 := Lib.hid hg2; have HGr := Lib.hid hgr2; have HCl := Lib.hid hc1l; have HDl := Lib.hid hdl
  unfold maxLen at hcm hG2
  clear hown hvb hg htake hcs hRs hRt hold hkk hik hG hW1 hW2 hg1 hv1 ho1 hgr1 hc1 hg2 ho2 hgr2 src hfin hc1l hdl hm3 hRl HV HG HT HC HLn
  go_enter Tryd.func23, Tryd.ntmps23
  go_wp2_with (first | (at_builtin; refine Lib.wpList_append_run _ rfl _ _ 22 3 rfl _ _ rfl rfl _ _ (hrz _) ?_) | (refine wpList_copy_run _ rfl (.tmp 43) (.tmp 44) 22 22 rfl _ _ rfl rfl (hcpA _ _) ?_))
  go_still_tail 8, (by kernel_rfl)
  change wpList _ _ _ _ _ W2.drew
  refine wpList_copy_run _ rfl _ _ 22 22 rfl _ _ rfl rfl (hcpB _ _ _) ?_
  go_wp2
  go_ret
  refine ⟨_, rfl, ⟨?_, .inr ⟨w.heap.size, G, (splice c1 ((i + 1) * 3) (mcells (l.drop i))).toArray, rfl, hbase, setRow_heap W2.drew _ _ _ 30 (0, 0) HG2.out, hG1, by unfold maxLen; omega, ?_, ?_⟩⟩, grownBy_setRow_new HGr.out (Nat.le_refl _) _⟩
  · rw [mcells_length, ins, List.length_append, List.length_cons, List.length_take, List.length_drop, hlen]; omega
  · rw [List.size_toArray, length_splice _ _ _ (by rw [HDl.out, HCl.out]; omega), HCl.out]
  · rw [List.toList_toArray]; exact HF.out

/-- slices.Insert of one member -/
theorem insert_any (base n i vb vc : Nat) (v : Value) (l : List Mem) (m : Mem) (w : World) (hown : w.ownsRow base 30 3 v n (mcells l)) (hvb : w.heap[vb]? = some (mblk m)) (hne : v.ownBlock ≠ some vb) (hn : n ≤ 1000) (hi : i ≤ n) (hbase : base ≤ w.heap.size) :
    Calls Tryd.prog 23 #[v, .int .i64 i, .slice (some ⟨vb, 0, none⟩) 1 vc] w fun e w' => ∃ v', e = .returned v' ∧ w'.ownsRow base 30 3 v' (n + 1) (mcells (ins l i m)) ∧ w.grownBy w' v.ownBlock := by
  rcases Nat.eq_or_lt_of_le hi with rfl | hlt
  · have hlen : l.length = i := by have := hown.1; rw [mcells_length] at this; omega
    have e : ins l i m = l ++ [m] := by rw [ins, List.take_of_length_le (by omega), List.drop_of_length_le (by omega)]
    rw [e]
    exact insert_end base i vb vc v l m w hown hvb hn hbase
  · have ho := hown
    rcases hown.2 with ⟨h, h0⟩ | ⟨g, cap, cur, rfl, _, _, _, _, _, _⟩
    · omega
    · by_cases hr : n + 1 ≤ cap
      · exact insert_room base n i cap g vb vc l m w ho hvb (fun e => hne (by simp [Value.ownBlock, e])) hn hlt hr
      · exact insert_grow base n i cap g vb vc l m w ho hvb hn hlt (by omega) hbase
end Go.Proofs.YtachfnmbhhppbaaDoor
