/- The walk of ViewBumps. -/
import Derived.Test.YtachfnmbhhppbaaS
namespace Go.Proofs.Ytachfnmbhhppbaa
open Go.RowKit

/-! plain -/
theorem bump_newB {a : List Mem} {nd : Int} {up : Bool} : newB a (bumpM a nd up) = true := by
  unfold newB bumpM verOf
  simp only
  cases h : get a nd with
  | none => rfl
  | some x => simp only; rw [laterB_iff]; unfold rank; simp only; split <;> split <;> omega
theorem get_bump {a : List Mem} {nd : Int} {up : Bool} (ha : Srt a) (t : Int) : get (putL a (bumpM a nd up)) t = if nd = t then some (bumpM a nd up) else get a t := by
  rw [get_putL _ ha]
  have e : (bumpM a nd up).node = nd := rfl
  rw [e]
  by_cases h : nd = t
  · rw [if_pos h, if_pos h]
    have hb := bump_newB (a := a) (nd := nd) (up := up)
    unfold newB at hb
    rw [e, h] at hb
    cases hx : get a t with
    | none => rfl
    | some x =>
      rw [hx] at hb
      simp only at hb
      simp only [join, pick]
      rw [h, hb]; rfl
  · rw [if_neg h, if_neg h]
theorem join_self (x : Option Mem) : join x x = x := by cases x <;> simp [join, pick_self]
theorem bump_merge {a : List Mem} {nd : Int} {up : Bool} (ha : Srt a) : mergeL a (putL a (bumpM a nd up)) = putL a (bumpM a nd up) :=
  ext (srt_mergeL _ ha) (srt_putL _ ha) fun t => by
    rw [get_mergeL _ ha (srt_putL _ ha), get_putL _ ha]
    split
    · rw [← join_assoc, join_self]
    · rw [join_self]
theorem bump_merge' {a : List Mem} {nd : Int} {up : Bool} (ha : Srt a) : mergeL (putL a (bumpM a nd up)) a = putL a (bumpM a nd up) := by
  rw [merge_comm (srt_putL _ ha) ha, bump_merge ha]
theorem bump_newer {a : List Mem} {nd : Int} {up : Bool} (ha : Srt a) : newerL a (putL a (bumpM a nd up)) = [bumpM a nd up] :=
  ext (srt_newerL (srt_putL _ ha)) (by simp [Srt]) fun t => by
    rw [newerL, get_filter _ (srt_putL _ ha), get_bump ha, get_cons]
    have e : (bumpM a nd up).node = nd := rfl
    rw [e]
    by_cases h : nd = t
    · rw [if_pos h, if_pos h]; simp [Option.filter, bump_newB]
    · rw [if_neg h, if_neg h]
      cases hx : get a t with
      | none => rfl
      | some x =>
        have hn := get_node hx
        have : newB a x = false := by
          unfold newB; rw [hn, hx]; simp only
          have := laterB_iff x x
          cases hl : laterB x x with
          | false => rfl
          | true => have := this.1 hl; omega
        simp [Option.filter, this, get]
theorem bump_alive {a : List Mem} {nd : Int} {up : Bool} (ha : Srt a) : (nd ∈ aliveL (putL a (bumpM a nd up))) ↔ up = true := by
  unfold aliveL
  rw [List.mem_map]
  constructor
  · rintro ⟨x, hx, hn⟩
    rw [List.mem_filter] at hx
    have := get_of_mem (srt_putL _ ha) hx.1
    rw [hn, get_bump ha, if_pos rfl] at this
    cases this
    exact hx.2
  · intro h
    refine ⟨bumpM a nd up, ?_, rfl⟩
    rw [List.mem_filter]
    exact ⟨get_mem (t := nd) (by rw [get_bump ha, if_pos rfl]), h⟩

set_option maxHeartbeats 1000000 in
theorem bumps_bad (v : Value) (l : List Mem) (nd : Int) (up : Bool) (w : World) (hv : SlR w v l) (h : ¬ (Valid l ∧ 0 ≤ nd ∧ nd < 16 ∧ ∀ x, get l nd = some x → x.ver < 1000000)) :
    Calls Try.prog 4 #[v, .int .i64 nd, .bool up] w fun e w' => e = .returned (.bool true) ∧ Below w.heap.size w w' := by
  have HV := Lib.hid hv; have H := Lib.hid h
  clear hv h
  by_cases hva : Valid l
  · have HVa := Lib.hid hva; clear hva
    obtain ⟨A, n, c, hve, h2, h3, h4, h5⟩ := HV.out
    subst hve
    have hn16 := valid_length HVa.out
    have HL := Lib.hid h2; clear h2 h4 h5
    by_cases h0 : nd < 0
    · go_enter Try.func4, Try.ntmps4
      go_wp2_with fail
      refine (Bump_x _ l nd up _ HV.out H.out).mono ?_
      rintro e w1 ⟨k, rfl, hb1⟩
      have B1 := Lib.hid hb1; clear hb1
      go_wp2_with fail
      refine (Check_v _ l _ (HV.out.below B1.out) HVa.out).mono ?_
      rintro e w2 ⟨rfl, hb2⟩
      have B2 := Lib.hid (B1.out.trans (hb2.mono B1.out.size)); clear hb2
      go_wp2
      go_ret
      exact ⟨rfl, B2.out⟩
    · by_cases h1 : 15 < nd
      · have h0' : decide (nd < 0) = false := by simp; omega
        go_enter Try.func4, Try.ntmps4
        go_wp2_with fail
        refine (Bump_x _ l nd up _ HV.out H.out).mono ?_
        rintro e w1 ⟨k, rfl, hb1⟩
        have B1 := Lib.hid hb1; clear hb1
        go_wp2_with fail
        refine (Check_v _ l _ (HV.out.below B1.out) HVa.out).mono ?_
        rintro e w2 ⟨rfl, hb2⟩
        have B2 := Lib.hid (B1.out.trans (hb2.mono B1.out.size)); clear hb2
        go_wp2
        go_ret
        exact ⟨rfl, B2.out⟩
      · have h0' : decide (nd < 0) = false := by simp; omega
        have h1' : decide (15 < nd) = false := by simp; omega
        have hpos : (0 : Int) < (n : Int) := by
          rcases Nat.eq_zero_or_pos n with hz | hz
          · exfalso
            apply H.out
            have : l = [] := List.eq_nil_of_length_eq_zero (by rw [HL.out]; exact hz)
            refine ⟨HVa.out, by omega, by omega, fun x hx => ?_⟩
            rw [this] at hx; cases hx
          · omega
        go_enter Try.func4, Try.ntmps4
        go_wp2_with fail
        refine (Bump_x _ l nd up _ HV.out H.out).mono ?_
        rintro e w1 ⟨k, rfl, hb1⟩
        have B1 := Lib.hid hb1; clear hb1
        go_wp2_with fail
        refine (Check_v _ l _ (HV.out.below B1.out) HVa.out).mono ?_
        rintro e w2 ⟨rfl, hb2⟩
        have B2 := Lib.hid (B1.out.trans (hb2.mono B1.out.size)); clear hb2
        go_wp2
        go_ret
        exact ⟨ret_b (by have : 0 < n := by omega
                         simp [this]), B2.out⟩
  · have HVa := Lib.hid hva; clear hva
    go_enter Try.func4, Try.ntmps4
    go_wp2_with fail
    refine (Bump_x v l nd up _ HV.out H.out).mono ?_
    rintro e w1 ⟨k, rfl, hb1⟩
    have B1 := Lib.hid hb1; clear hb1
    go_wp2_with fail
    refine (Check_x v l _ (HV.out.below B1.out) HVa.out).mono ?_
    rintro e w2 ⟨k', rfl, hb2⟩
    have B2 := Lib.hid (B1.out.trans (hb2.mono B1.out.size)); clear hb2
    go_wp2
    go_ret
    exact ⟨rfl, B2.out⟩

theorem own_cell {w : World} {base e n c k : Nat} {A : Option Addr} {xs : List Value} (h : w.ownsRow base e 1 (.slice A n c) n xs) (hk : k < n) : ∃ g, A = some ⟨g, 0, none⟩ ∧ w.cell? ⟨g, k, none⟩ = xs[k]? := by
  rcases h.2 with ⟨h', h0⟩ | ⟨g, cap, cur, hv, _⟩
  · omega
  · cases hv
    exact ⟨g, rfl, h.cellAt k (by omega)⟩
theorem le_trans' {a k : Nat} (h : a ≤ 16) (hk : k ≤ a) : k ≤ 16 := by omega
theorem take_in (l : List Int) (k : Nat) (x nd : Int) (hx : l[k]? = some x) (h : nd ∈ l.take k) : nd ∈ l.take (k + 1) := by
  obtain ⟨h1, h2⟩ := List.getElem?_eq_some_iff.1 hx
  rw [List.take_succ_eq_append_getElem h1, List.mem_append]; exact Or.inl h
theorem take_new (l : List Int) (k : Nat) (x nd : Int) (hx : l[k]? = some x) (h : x = nd) : nd ∈ l.take (k + 1) := by
  obtain ⟨h1, h2⟩ := List.getElem?_eq_some_iff.1 hx
  rw [List.take_succ_eq_append_getElem h1, h2, h]; simp
theorem take_not (l : List Int) (k : Nat) (x nd : Int) (hx : l[k]? = some x) (h : ¬ x = nd) (hn : ¬ nd ∈ l.take k) : ¬ nd ∈ l.take (k + 1) := by
  obtain ⟨h1, h2⟩ := List.getElem?_eq_some_iff.1 hx
  rw [List.take_succ_eq_append_getElem h1, h2]
  simp only [List.mem_append, List.mem_singleton, not_or]
  exact ⟨hn, fun e => h e.symm⟩

set_option maxHeartbeats 2000000 in
theorem bumps_good (v : Value) (l : List Mem) (nd : Int) (up : Bool) (w : World) (hv : SlR w v l) (hva : Valid l) (h0 : 0 ≤ nd) (h1 : nd < 16) (h : ∀ x, get l nd = some x → x.ver < 1000000) :
    Calls Try.prog 4 #[v, .int .i64 nd, .bool up] w fun e w' => e = .returned (.bool true) ∧ Below w.heap.size w w' := by
  obtain ⟨B, hB⟩ : ∃ B, B = putL l (bumpM l nd up) := ⟨_, rfl⟩
  have hvb : Valid B := by rw [hB]; exact valid_putL hva (okM_bump h0 h1 hva h)
  have HV := Lib.hid hv; have H := Lib.hid h; have HVa := Lib.hid hva; have HVb := Lib.hid hvb; have HB := Lib.hid hB
  have HM1 : Hid (mergeL l B = B) := Lib.hid (by rw [hB]; exact bump_merge hva.1)
  have HM2 : Hid (mergeL B l = B) := Lib.hid (by rw [hB]; exact bump_merge' hva.1)
  have HN : Hid (newerL l B = [⟨nd, verOf l nd, up⟩]) := Lib.hid (by rw [hB]; exact bump_newer hva.1)
  have HAl : Hid ((nd ∈ aliveL B) ↔ up = true) := Lib.hid (by rw [hB]; exact bump_alive hva.1)
  have HLn : Hid (B.length ≤ 16) := Lib.hid (valid_length hvb)
  have HLa : Hid ((aliveL B).length ≤ 16) := Lib.hid (by have := length_aliveL B; have := valid_length hvb; omega)
  clear hv hva hvb h hB
  go_enter Try.func4, Try.ntmps4
  go_wp2_with fail
  refine (Bump_v v l nd up _ HV.out HVa.out h0 h1 H.out).mono ?_
  rintro e w1 ⟨va, rfl, ha, hb1⟩
  rw [← HB.out] at ha
  have B1 := Lib.hid hb1; have A1 := Lib.hid ha; clear hb1 ha
  go_wp2_with fail
  refine (Merge_v v va l B _ (HV.out.below B1.out) A1.out HVa.out HVb.out).mono ?_
  rintro e w2 ⟨vb, rfl, hb, hb2⟩
  rw [HM1.out] at hb
  have B2 := Lib.hid (B1.out.trans (hb2.mono B1.out.size)); have A2 := Lib.hid (A1.out.below hb2); have Bb2 := Lib.hid hb; clear hb2 hb
  go_wp2_with fail
  refine (Merge_v va v B l _ A2.out (HV.out.below B2.out) HVb.out HVa.out).mono ?_
  rintro e w3 ⟨vc, rfl, hc, hb3⟩
  rw [HM2.out] at hc
  have B3 := Lib.hid (B2.out.trans (hb3.mono B2.out.size)); have A3 := Lib.hid (A2.out.below hb3); have Bb3 := Lib.hid (Bb2.out.below hb3); have C3 := Lib.hid hc; clear hb3 hc
  go_wp2_with fail
  refine (Members_v va vb _ _ _ A3.out Bb3.out (by have := HLn.out; omega) rfl).mono ?_
  rintro e w4 ⟨rfl, hb4⟩
  have B4 := Lib.hid (B3.out.trans (hb4.mono B3.out.size)); have A4 := Lib.hid (A3.out.below hb4); have C4 := Lib.hid (C3.out.below hb4); clear hb4
  go_wp2_with fail
  refine (Members_v va vc _ _ _ A4.out C4.out (by have := HLn.out; omega) rfl).mono ?_
  rintro e w5 ⟨rfl, hb5⟩
  have B5 := Lib.hid (B4.out.trans (hb5.mono B4.out.size)); have A5 := Lib.hid (A4.out.below hb5); clear hb5
  go_wp2_with fail
  refine (Newer_v v va l B _ (HV.out.below B5.out) A5.out HVa.out HVb.out).mono ?_
  rintro e w6 ⟨vn, rfl, hn, hb6⟩
  rw [HN.out] at hn
  obtain ⟨bk, off, cn, hvn, hbk, k1, k2, k3⟩ := hn.one
  rw [hvn]
  have B6 := Lib.hid (B5.out.trans (hb6.mono B5.out.size)); have A6 := Lib.hid (A5.out.below hb6); clear hb6 hn hvn
  go_wp2_with fail
  refine (Alive_v va B _ A6.out HVb.out).mono ?_
  rintro e w7 ⟨Al, ca, rfl, hal, hb7⟩
  have q1 := (hb7.cell (p := ⟨bk, off, none⟩) hbk).trans k1
  have q3 := (hb7.cell (p := ⟨bk, off + 2, none⟩) hbk).trans k3
  have B7 := Lib.hid (B6.out.trans (hb7.mono B6.out.size)); have A7 := Lib.hid (A6.out.below hb7); have Al7 := Lib.hid hal; clear hb7 hal k1 k2 k3
  go_wp2_with fail
  go_loopw [19, 20] (fun t i wr => ∃ (k : Nat) (b : Bool), k ≤ (aliveL B).length ∧ i = .int .i64 k ∧ t = .bool b ∧ (b = true ↔ nd ∈ (aliveL B).take k) ∧ wr = w7) (fun _ i _ => (aliveL B).length - (intOf i).toNat)
  case atStart => exact ⟨0, false, by omega, rfl, rfl, by simp, rfl⟩
  case round =>
    obtain ⟨k, b, hk, rfl, rfl, hbk', rfl⟩ := hrel
    have HK := Lib.hid hbk'; clear hbk'
    by_cases hlt : k < (aliveL B).length
    · obtain ⟨g, hg, hcell⟩ := own_cell Al7.out hlt
      subst hg
      rw [icells, List.getElem?_map] at hcell
      obtain ⟨x, hx⟩ : ∃ x, (aliveL B)[k]? = some x := ⟨_, List.getElem?_eq_getElem hlt⟩
      rw [hx] at hcell
      simp only [Option.map_some] at hcell
      have HX := Lib.hid hx; clear hx
      have hk16 := le_trans' HLa.out hk
      cases b with
      | true =>
        go_wp2
        go_roundw
        case rel => exact ⟨k + 1, true, by omega, by go_num, rfl, by simpa using take_in _ k x nd HX.out (HK.out.1 rfl), by first | rfl | trivial⟩
        case measure => simp [intOf]; omega
      | false =>
        by_cases hxn : x = nd
        · have hxn' : (x == nd) = true := by simpa using hxn
          have HXn := Lib.hid hxn; clear hxn
          go_wp2
          go_roundw
          case rel => exact ⟨k + 1, true, by omega, by go_num, rfl, by simpa using take_new _ k x nd HX.out HXn.out, by first | rfl | trivial⟩
          case measure => simp [intOf]; omega
        · have hxn' : (x == nd) = false := by simpa using hxn
          have HXn := Lib.hid hxn; clear hxn
          go_wp2
          go_roundw
          case rel => exact ⟨k + 1, false, by omega, by go_num, rfl, by simpa using take_not _ k x nd HX.out HXn.out (fun h => by have := HK.out.2 h; cases this), by first | rfl | trivial⟩
          case measure => simp [intOf]; omega
    · have hb : b = up := by
        have e : (aliveL B).take k = aliveL B := List.take_of_length_le (by omega)
        have h1 := HK.out
        rw [e, HAl.out] at h1
        cases b <;> cases up <;> simp_all
      subst hb
      go_wp2_with fail
      refine (Check_v va B _ A7.out HVb.out).mono ?_
      rintro e w8 ⟨rfl, hb8⟩
      have B8 := Lib.hid (B7.out.trans (hb8.mono B7.out.size)); clear hb8
      go_wp2
      go_ret
      exact ⟨rfl, B8.out⟩

theorem bumps_any (v : Value) (l : List Mem) (nd : Int) (up : Bool) (w : World) (hv : SlR w v l) :
    Calls Try.prog 4 #[v, .int .i64 nd, .bool up] w fun e w' => e = .returned (.bool true) ∧ Below w.heap.size w w' := by
  by_cases h : Valid l ∧ 0 ≤ nd ∧ nd < 16 ∧ ∀ x, get l nd = some x → x.ver < 1000000
  · exact bumps_good v l nd up w hv h.1 h.2.1 h.2.2.1 h.2.2.2
  · exact bumps_bad v l nd up w hv h
end Go.Proofs.Ytachfnmbhhppbaa
