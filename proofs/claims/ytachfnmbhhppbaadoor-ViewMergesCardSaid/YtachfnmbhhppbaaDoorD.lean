/- slices.Insert at one member. -/
import Derived.Test.YtachfnmbhhppbaaDoorM
import Derived.Test.YtachfnmbhhppbaaDoorP
import Derived.Test.YtachfnmbhhppbaaDoorL
import Derived.Maps.AppendAt
import Derived.Laws.Externs
import Derived.Outline
import Derived.OwnWalk
import Derived.StillTailTactics
namespace Go.Proofs.YtachfnmbhhppbaaDoor
set_option maxRecDepth 100000
open Go.RowKit

theorem info28 : (Tryd.prog.info? 30).map (fun i => (i.zero, i.size, i.bytes)) = some (some (.agg #[.int .i64 0, .int .i64 0, .bool false]), 3, 24) := by kernel_rfl

theorem one_mcells (l : List Mem) : ∀ u ∈ mcells l, u.oneCell' = true := by
  induction l with
  | nil => simp [mcells]
  | cons m r ih => intro u hu; simp only [mcells, List.mem_cons] at hu; rcases hu with rfl | rfl | rfl | hu <;> first | rfl | exact ih u hu
theorem mcells_append (a b : List Mem) : mcells (a ++ b) = mcells a ++ mcells b := by
  induction a with
  | nil => rfl
  | cons m r ih => simp [mcells, ih]
theorem mcells_take (l : List Mem) (i : Nat) : (mcells l).take (i * 3) = mcells (l.take i) := by
  induction l generalizing i with
  | nil => simp [mcells]
  | cons m r ih =>
    cases i with
    | zero => simp [mcells]
    | succ i => rw [show (i + 1) * 3 = i * 3 + 1 + 1 + 1 from by omega]; simp [mcells, ih]
theorem mcells_drop (l : List Mem) (i : Nat) : (mcells l).drop (i * 3) = mcells (l.drop i) := by
  induction l generalizing i with
  | nil => simp [mcells]
  | cons m r ih =>
    cases i with
    | zero => simp [mcells]
    | succ i => rw [show (i + 1) * 3 = i * 3 + 1 + 1 + 1 from by omega]; simp [mcells, ih]

/-- A block that is one member. -/
def mblk (m : Mem) : Obj := .cells #[.int .i64 m.node, .int .i64 m.ver, .bool m.up] 30
theorem news_at (w : World) (vb : Nat) (m : Mem) (h : w.heap[vb]? = some (mblk m)) : ∀ j u, (mcells [m])[j]? = some u → w.cell? ((⟨vb, 0, none⟩ : Addr).add j) = some u := by
  intro j u hu
  have e : (⟨vb, 0, none⟩ : Addr).add j = ⟨vb, j, none⟩ := by unfold Addr.add; split <;> simp_all
  rw [e]
  unfold mblk at h
  rcases j with _ | _ | _ | j <;> simp [mcells] at hu <;> subst hu <;> simp [World.cell?, h]

/-- at the end -/
theorem insert_end (base n vb vc : Nat) (v : Value) (l : List Mem) (m : Mem) (w : World) (hown : w.ownsRow base 30 3 v n (mcells l)) (hvb : w.heap[vb]? = some (mblk m)) (hn : n ≤ 1000) (hb : base ≤ w.heap.size) :
    Calls Tryd.prog 23 #[v, .int .i64 n, .slice (some ⟨vb, 0, none⟩) 1 vc] w fun e w' => ∃ v', e = .returned v' ∧ w'.ownsRow base 30 3 v' (n + 1) (mcells (l ++ [m])) ∧ w.grownBy w' v.ownBlock := by
  obtain ⟨i0, hi, hz0, hz1, hz2⟩ := info_parts info28
  have HV := Lib.hid hvb; clear hvb
  have HO := Lib.hid hown
  rcases hown.2 with ⟨rfl, rfl⟩ | ⟨g, cap, cur, rfl, hbg, hg, hnc, hcm, hcs, htake⟩
  · clear hown
    go_enter Tryd.func23, Tryd.ntmps23
    go_wp2_with (at_builtin; refine wpList_append_own _ rfl _ _ 22 rfl base 30 i0 _ 3 24 Tryd.underlying22 hi hz0 hz1 hz2 rfl (by decide) _ _ _ rfl HO.out ⟨vb, 0, none⟩ 1 vc (mcells [m]) rfl rfl (news_at _ _ _ HV.out) (one_mcells _) (by unfold maxLen; omega) (by omega) hb ?_; intro v' w1 hown' hgrow _)
    go_ret
    exact ⟨_, rfl, by rw [mcells_append]; exact hown', hgrow⟩
  · clear hown hg hcs htake
    unfold maxLen at hcm
    go_enter Tryd.func23, Tryd.ntmps23
    go_wp2_with (at_builtin; refine wpList_append_own _ rfl _ _ 22 rfl base 30 i0 _ 3 24 Tryd.underlying22 hi hz0 hz1 hz2 rfl (by decide) _ _ _ rfl HO.out ⟨vb, 0, none⟩ 1 vc (mcells [m]) rfl rfl (news_at _ _ _ HV.out) (one_mcells _) (by unfold maxLen; omega) (by omega) hb ?_; intro v' w1 hown' hgrow _)
    all_goals
      go_ret
      exact ⟨_, rfl, by rw [mcells_append]; exact hown', hgrow⟩


theorem room_cells (l : List Mem) (cur c1 : List Value) (i n cap : Nat) (m : Mem) (hl : l.length = n) (ht : cur.take (n * 3) = mcells l) (hc : cur.length = cap * 3) (hi : i < n) (hroom : n + 1 ≤ cap) (h1 : c1 = splice cur ((i + 1) * 3) (mcells (l.drop i))) :
    (splice c1 (i * 3) (mcells [m])).take ((n + 1) * 3) = mcells (ins l i m) := by
  have hd : (mcells (l.drop i)).length = (n - i) * 3 := by rw [mcells_length, List.length_drop, hl]
  have ht3 : cur.take (i * 3) = mcells (l.take i) := by
    rw [← mcells_take, ← ht, List.take_take]; congr 1; omega
  have hA : (mcells (l.take i)).length = i * 3 := by rw [mcells_length, List.length_take]; omega
  have hm3 : (mcells [m]).length = 3 := by rw [mcells_length]; rfl
  -- c1 = (take i) ++ X ++ (drop i) ++ rest, X of three cells
  have e1 : c1 = mcells (l.take i) ++ ((cur.drop (i * 3)).take 3 ++ (mcells (l.drop i) ++ cur.drop ((n + 1) * 3))) := by
    rw [h1, splice, hd, show (i + 1) * 3 + (n - i) * 3 = (n + 1) * 3 from by omega]
    rw [show cur.take ((i + 1) * 3) = mcells (l.take i) ++ (cur.drop (i * 3)).take 3 from by
      rw [← ht3, ← List.take_add]; congr 1; omega]
    rw [List.append_assoc]
  have hX : ((cur.drop (i * 3)).take 3).length = 3 := by rw [List.length_take, List.length_drop]; omega
  have e2 : c1.take (i * 3) = mcells (l.take i) := by rw [e1]; exact List.take_left' hA
  have e3 : c1.drop (i * 3 + 3) = mcells (l.drop i) ++ cur.drop ((n + 1) * 3) := by
    rw [e1, ← List.append_assoc]
    exact List.drop_left' (by rw [List.length_append, hA, hX])
  have e4 : mcells (ins l i m) = mcells (l.take i) ++ (mcells [m] ++ mcells (l.drop i)) := by
    rw [ins, mcells_append, show m :: l.drop i = [m] ++ l.drop i from rfl, mcells_append]
  rw [splice, hm3, e2, e3, e4, ← List.append_assoc (mcells [m]), ← List.append_assoc (mcells (l.take i))]
  exact List.take_left' (by simp only [List.length_append, hd, hA, hm3]; omega)

/-- in the middle, there is room -/
theorem insert_room (base n i cap g vb vc : Nat) (l : List Mem) (m : Mem) (w : World) (hown : w.ownsRow base 30 3 (.slice (some ⟨g, 0, none⟩) n cap) n (mcells l)) (hvb : w.heap[vb]? = some (mblk m)) (hne : vb ≠ g) (hn : n ≤ 1000) (hi : i < n) (hroom : n + 1 ≤ cap) :
    Calls Tryd.prog 23 #[.slice (some ⟨g, 0, none⟩) n cap, .int .i64 i, .slice (some ⟨vb, 0, none⟩) 1 vc] w fun e w' => ∃ v', e = .returned v' ∧ w'.ownsRow base 30 3 v' (n + 1) (mcells (ins l i m)) ∧ w.grownBy w' (some g) := by
  obtain ⟨i0, hi0, hz0, hz1, hz2⟩ := info_parts info28
  have hs3 : (Tryd.prog.info? 30).map (·.size) = some 3 := by rw [hi0]; simp [hz1]
  rcases hown.2 with ⟨h, _⟩ | ⟨g', cap', cur, hv, hbg, hg, hnc, hcm, hcs, htake⟩
  · cases h
  cases hv
  have hlen : l.length = n := by have := hown.1; rw [mcells_length] at this; omega
  have HV := Lib.hid hvb
  have HG := Lib.hid hg
  have HT := Lib.hid htake
  have HC := Lib.hid hcs
  have HLn := Lib.hid hlen
  have hov : ∀ lb cb, (callFunc 30 #[.slice (some ⟨vb, 0, none⟩) 1 vc, .slice (some ⟨g, (i + 1) * 3, none⟩) lb cb]).run Tryd.prog w = .ok (.value (.bool false)) w := fun lb cb => by
    rw [run_callFunc_extern Tryd.func30 (by kernel_rfl) (by kernel_rfl) (by kernel_rfl) (e := Extern.SlicesOverlaps.overlaps #[22, 22] #[4]) (by kernel_rfl),
      Lib.run_overlaps_apart w 22 4 30 Tryd.underlying22 3 (fun w => by simp [sizeOf, typeInfo, hi0, hz1]) ⟨vb, 0, none⟩ ⟨g, (i + 1) * 3, none⟩ 1 vc lb cb hne 30 30 3 cur.size (by have := HV.out; simp [World.shape?, this, mblk]) (by have := HG.out; simp [World.shape?, this]) (by rw [hcs]; omega) (by have := HV.out; simp [World.frozen?, this, mblk]) (by have := HV.out; simp [World.frozen?, this, mblk])]
    rfl
  have hw1 : IntKind.i64.wrap ((i : Int) + 1) = (i : Int) + 1 := IntWalk.i64_in _ (by omega)
  have hb1 : (0 : Int) ≤ (i : Int) + 1 := by omega
  have htn : ((i : Int) + 1).toNat = i + 1 := by omega
  have hb2 : ¬ (cap = i + 1) := by omega
  have hb4 : ¬ (cap = i) := by omega
  have hin : i ≤ n := by omega
  have hz2 : ((i : Int) == (n : Int)) = false := by rw [beq_eq_false_iff_ne]; omega
  clear hown hvb hg htake hcs hlen
  unfold maxLen at hcm
  go_enter Tryd.func23, Tryd.ntmps23
  go_wp2_with (simp only [hov])
  obtain ⟨c1, hc1⟩ : ∃ c1, c1 = splice cur.toList ((i + 1) * 3) (mcells (l.drop i)) := ⟨_, rfl⟩
  have hcl : cur.size = cap * 3 := HC.out
  have hdl : (mcells (l.drop i)).length = (n - i) * 3 := by rw [mcells_length, List.length_drop, HLn.out]
  have hc1l : c1.length = cap * 3 := by rw [hc1, length_splice _ _ _ (by rw [hdl, Array.length_toList, hcl]; omega), Array.length_toList, hcl]
  have src : ∀ j u, (mcells (l.drop i))[j]? = some u → w.drew.cell? ((⟨g, i * 3, none⟩ : Addr).add j) = some u := by
    intro j u hu
    have e : (⟨g, i * 3, none⟩ : Addr).add j = ⟨g, i * 3 + j, none⟩ := by unfold Addr.add; split <;> simp_all
    rw [e]
    have hg : w.drew.heap[g]? = some (.cells cur 30 (0, 0)) := HG.out
    have hj : j < (n - i) * 3 := by have := (List.getElem?_eq_some_iff.1 hu).1; omega
    simp only [World.cell?, hg]
    rw [← mcells_drop, List.getElem?_drop, ← HT.out, List.getElem?_take, if_pos (by omega)] at hu
    simpa using hu
  have hcp1 : ∀ ty dc sc, (Builtin.copy_ #[22, 22] ty #[.slice (some ⟨g, (i + 1) * 3, none⟩) (n - i) dc, .slice (some ⟨g, i * 3, none⟩) (n + 1 - i) sc]).run Tryd.prog w.drew = .ok (goInt (Nat.min (n + 1 - i) (n - i))) (w.drew.setRow g c1.toArray) := fun ty dc sc => by
    rw [hc1]
    exact run_copy_n w.drew 22 22 ty 30 3 g ((i + 1) * 3) (n - i) dc ⟨g, i * 3, none⟩ (n + 1 - i) sc cur 30 (mcells (l.drop i)) Tryd.underlying22 hs3 HG.out (by rw [hdl]; congr 1; simp [Nat.min_def]; omega) src (by rw [hdl, hcl]; omega) (one_mcells _)
  have H1 := Lib.hid hc1; clear hc1 src
  have HC1 := Lib.hid hc1l; clear hc1l hcl hdl
  have hb5 : (i : Int) ≤ (n : Int) + 1 := by omega
  have hb6 : i ≤ n + 1 := by omega
  go_still_tail 8, (by kernel_rfl)
  change wpList _ _ _ _ _ w.drew
  refine wpList_copy_run _ rfl _ _ 22 22 rfl _ _ rfl rfl (hcp1 _ _ _) ?_
  obtain ⟨W1, hW1⟩ : ∃ W1, W1 = w.drew.setRow g c1.toArray := ⟨_, rfl⟩
  rw [← hW1]
  have hg1 : W1.heap[g]? = some (.cells c1.toArray 30 (0, 0)) := by rw [hW1]; exact setRow_heap w.drew g cur c1.toArray 30 (0, 0) HG.out
  have hv1 : W1.heap[vb]? = some (mblk m) := by rw [hW1, setRow_other _ _ _ _ hne]; exact HV.out
  have hgr1 : w.grownBy W1 (some g) := by rw [hW1]; exact grownBy_setRow (grownBy_drew (World.grownBy.refl w _)) _
  have G1 := Lib.hid hg1; have V1 := Lib.hid hv1; clear hW1 hg1 hv1 hcp1
  have hcp2 : ∀ ty dc, (Builtin.copy_ #[22, 22] ty #[.slice (some ⟨g, i * 3, none⟩) (n + 1 - i) dc, .slice (some ⟨vb, 0, none⟩) 1 vc]).run Tryd.prog W1 = .ok (goInt (Nat.min 1 (n + 1 - i))) (W1.setRow g (splice c1 (i * 3) (mcells [m])).toArray) := fun ty dc => by
    have hcl := HC1.out
    have e := run_copy_n W1 22 22 ty 30 3 g (i * 3) (n + 1 - i) dc ⟨vb, 0, none⟩ 1 vc c1.toArray 30 (mcells [m]) Tryd.underlying22 hs3 G1.out (by rw [mcells_length, show Nat.min 1 (n + 1 - i) = 1 from Nat.min_eq_left (by omega)]; rfl) (news_at W1 vb m V1.out) (by rw [mcells_length]; simp; omega) (one_mcells _)
    simpa using e
  go_wp2_with (at_builtin; refine wpList_copy_run _ rfl _ _ 22 22 rfl _ _ rfl rfl (hcp2 _ _) ?_)
  go_ret
  refine ⟨_, rfl, ⟨?_, .inr ⟨g, cap, (splice c1 (i * 3) (mcells [m])).toArray, rfl, hbg, setRow_heap W1 g _ _ 30 (0, 0) G1.out, hroom, by unfold maxLen; omega, ?_, ?_⟩⟩, grownBy_setRow hgr1 _⟩
  · rw [mcells_length, ins, List.length_append, List.length_cons, List.length_take, List.length_drop, HLn.out]; omega
  · have := HC1.out
    rw [List.size_toArray, length_splice _ _ _ (by rw [mcells_length]; simp; omega), HC1.out]
  · rw [List.toList_toArray]
    exact room_cells l cur.toList c1 i n cap m HLn.out HT.out (by rw [Array.length_toList, HC.out]) hi hroom H1.out
end Go.Proofs.YtachfnmbhhppbaaDoor
