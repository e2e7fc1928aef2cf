/- The contracts in the words of the law. -/
import Derived.Test.YtachfnmbhhppbaaDoorR
namespace Go.Proofs.YtachfnmbhhppbaaDoor
set_option maxRecDepth 100000
open Go.RowKit

theorem bothErr_zero (a b : List Mem) : bothErr a b = 0 ↔ Valid a ∧ Valid b := by
  unfold bothErr
  by_cases h : viewErr a = 0
  · rw [if_pos h, viewErr_zero]; rw [viewErr_zero] at h; exact ⟨fun h' => ⟨h, h'⟩, fun h' => h'.2⟩
  · rw [if_neg h]; exact ⟨fun h' => absurd h' h, fun h' => absurd ((viewErr_zero a).2 h'.1) h⟩

theorem Merge_v (v u : Value) (a b : List Mem) (w : World) (hv : SlR w v a) (hu : SlR w u b) (ha : Valid a) (hb : Valid b) :
    Calls Tryd.prog 9 #[v, u] w fun e w' => ∃ r, e = .returned (.tuple #[r, .nilIface]) ∧ SlR w' r (mergeL a b) ∧ Below w.heap.size w w' := by
  obtain ⟨A, n, c, rfl, h2, h3, h4, h5⟩ := hv
  obtain ⟨B, n', c', rfl, k2, k3, k4, k5⟩ := hu
  exact (Merge_ok A B n c n' c' a b w h2 k2 h4 k4 h5 ha hb).mono fun e w' ⟨r, e1, e2, e3⟩ => ⟨r, e1, SlR.own e2 (by have := valid_length (valid_mergeL ha hb); omega), e3⟩
theorem Merge_x (v u : Value) (a b : List Mem) (w : World) (hv : SlR w v a) (hu : SlR w u b) (h : ¬ (Valid a ∧ Valid b)) :
    Calls Tryd.prog 9 #[v, u] w fun e w' => ∃ k : Int, e = .returned (.tuple #[.slice none 0 0, .iface 42 (.int .i64 k)]) ∧ Below w.heap.size w w' := by
  obtain ⟨A, n, c, rfl, h2, h3, h4, h5⟩ := hv
  obtain ⟨B, n', c', rfl, k2, k3, k4, k5⟩ := hu
  exact (Merge_bad A B n c n' c' a b w h2 k2 h4 k4 h3 k3 (fun e => h ((bothErr_zero a b).1 e))).mono fun e w' ⟨e1, e3⟩ => ⟨_, e1, e3⟩
theorem Newer_v (v u : Value) (a b : List Mem) (w : World) (hv : SlR w v a) (hu : SlR w u b) (ha : Valid a) (hb : Valid b) :
    Calls Tryd.prog 10 #[v, u] w fun e w' => ∃ r, e = .returned (.tuple #[r, .nilIface]) ∧ SlR w' r (newerL a b) ∧ Below w.heap.size w w' := by
  obtain ⟨A, n, c, rfl, h2, h3, h4, h5⟩ := hv
  obtain ⟨B, n', c', rfl, k2, k3, k4, k5⟩ := hu
  exact (Newer_ok A B n c n' c' a b w h2 k2 h4 k4 ha hb).mono fun e w' ⟨r, e1, e2, e3⟩ => ⟨r, e1, SlR.own e2 (by have := valid_length (valid_newerL (a := a) hb); omega), e3⟩
theorem Check_v (v : Value) (a : List Mem) (w : World) (hv : SlR w v a) (ha : Valid a) :
    Calls Tryd.prog 6 #[v] w fun e w' => e = .returned .nilIface ∧ Below w.heap.size w w' := by
  obtain ⟨A, n, c, rfl, h2, h3, h4, h5⟩ := hv
  exact Check_ok A n c a w h2 h4 h3 ((viewErr_zero a).2 ha)
theorem Check_x (v : Value) (a : List Mem) (w : World) (hv : SlR w v a) (ha : ¬ Valid a) :
    Calls Tryd.prog 6 #[v] w fun e w' => ∃ k : Int, e = .returned (.iface 42 (.int .i64 k)) ∧ Below w.heap.size w w' := by
  obtain ⟨A, n, c, rfl, h2, h3, h4, h5⟩ := hv
  exact (Check_bad A n c a w h2 h4 h3 (fun e => ha ((viewErr_zero a).1 e))).mono fun e w' ⟨e1, e3⟩ => ⟨_, e1, e3⟩
theorem Members_v (v u : Value) (a b : List Mem) (w : World) (hv : SlR w v a) (hu : SlR w u b) (ha : a.length ≤ 1000) (he : a = b) :
    Calls Tryd.prog 11 #[v, u] w fun e w' => e = .returned (.bool true) ∧ Below w.heap.size w w' := by
  obtain ⟨A, n, c, rfl, h2, h3, h4, h5⟩ := hv
  obtain ⟨B, n', c', rfl, k2, k3, k4, k5⟩ := hu
  exact (Members_any A B n c n' c' a b w h2 k2 h4 k4 (by omega) (by rw [← he] at k2; omega)).mono fun e w' ⟨e1, e3⟩ => ⟨by rw [e1, he]; simp, e3⟩
theorem Alive_v (v : Value) (a : List Mem) (w : World) (hv : SlR w v a) (ha : Valid a) :
    Calls Tryd.prog 12 #[v] w fun e w' => ∃ A c, e = .returned (.tuple #[.slice A (aliveL a).length c, .nilIface]) ∧ w'.ownsRow w.heap.size 3 1 (.slice A (aliveL a).length c) (aliveL a).length (icells (aliveL a)) ∧ Below w.heap.size w w' := by
  obtain ⟨A, n, c, rfl, h2, h3, h4, h5⟩ := hv
  exact (Alive_ok A n c a w h2 h4 ha).mono fun e w' ⟨r, e1, e2, e3⟩ => by
    obtain ⟨A', c', hv⟩ := own_slice e2
    rw [hv] at e1 e2
    exact ⟨A', c', e1, e2, e3⟩
/-- the new member -/
theorem okM_bump {a : List Mem} {nd : Int} {up : Bool} (h0 : 0 ≤ nd) (h1 : nd < 16) (ha : Valid a) (h : ∀ x, get a nd = some x → x.ver < 1000000) : okM (bumpM a nd up) := by
  unfold okM bumpM verOf
  cases hx : get a nd with
  | none => simp; omega
  | some x => have h2 := h x hx; have h3 := ha.2 x (get_mem hx); unfold okM at h3; simp; omega
theorem valid_putL {a : List Mem} {m : Mem} (ha : Valid a) (hm : okM m) : Valid (putL a m) :=
  ⟨srt_putL m ha.1, fun x hx => by rcases mem_putL ha.1 hx with h | rfl; exact ha.2 x h; exact hm⟩
theorem Bump_v (v : Value) (a : List Mem) (nd : Int) (up : Bool) (w : World) (hv : SlR w v a) (ha : Valid a) (h0 : 0 ≤ nd) (h1 : nd < 16) (h : ∀ x, get a nd = some x → x.ver < 1000000) :
    Calls Tryd.prog 14 #[v, .int .i64 nd, .bool up] w fun e w' => ∃ r, e = .returned (.tuple #[r, .nilIface]) ∧ SlR w' r (putL a (bumpM a nd up)) ∧ Below w.heap.size w w' := by
  obtain ⟨A, n, c, rfl, h2, h3, h4, h5⟩ := hv
  have hl : (putL a (bumpM a nd up)).length ≤ 9223372036854775807 := by have := valid_length (valid_putL ha (okM_bump (up := up) h0 h1 ha h)); omega
  cases hx : get a nd with
  | none => exact (Bump_new A n c a nd up w h2 h4 h5 ha h0 h1 hx).mono fun e w' ⟨r, e1, e2, e3⟩ => ⟨r, e1, SlR.own e2 hl, e3⟩
  | some x => exact (Bump_set A n c a nd up w h2 h4 h5 ha h0 h1 x hx (h x hx) (ha.2 x (get_mem hx)).2.2.1).mono fun e w' ⟨r, e1, e2, e3⟩ => ⟨r, e1, SlR.own e2 hl, e3⟩
theorem Bump_x (v : Value) (a : List Mem) (nd : Int) (up : Bool) (w : World) (hv : SlR w v a) (h : ¬ (Valid a ∧ 0 ≤ nd ∧ nd < 16 ∧ ∀ x, get a nd = some x → x.ver < 1000000)) :
    Calls Tryd.prog 14 #[v, .int .i64 nd, .bool up] w fun e w' => ∃ k : Int, e = .returned (.tuple #[.slice none 0 0, .iface 42 (.int .i64 k)]) ∧ Below w.heap.size w w' := by
  obtain ⟨A, n, c, rfl, h2, h3, h4, h5⟩ := hv
  by_cases ha : Valid a
  · by_cases h0 : 0 ≤ nd ∧ nd < 16
    · have : ∃ x, get a nd = some x ∧ ¬ x.ver < 1000000 := by
        cases hx : get a nd with
        | none => exact absurd ⟨ha, h0.1, h0.2, fun x hx' => by rw [hx] at hx'; cases hx'⟩ h
        | some x =>
          refine ⟨x, rfl, fun hv => h ⟨ha, h0.1, h0.2, fun y hy => ?_⟩⟩
          rw [hx] at hy; cases hy; exact hv
      obtain ⟨x, hx, hxv⟩ := this
      have := (ha.2 x (get_mem hx)).2.2.2
      exact (Bump_full A n c a nd up w h2 h4 ha h0.1 h0.2 x hx (by omega)).mono fun e w' ⟨e1, e3⟩ => ⟨_, e1, e3⟩
    · exact (Bump_range A n c a nd up w h2 h4 ha h0).mono fun e w' ⟨e1, e3⟩ => ⟨_, e1, e3⟩
  · exact (Bump_bad A n c a nd up w h2 h4 h3 (fun e => ha ((viewErr_zero a).1 e))).mono fun e w' ⟨e1, e3⟩ => ⟨_, e1, e3⟩

/-- one member, known -/
theorem SlR.one {w : World} {v : Value} {m : Mem} (h : SlR w v [m]) : ∃ b off c, v = .slice (some ⟨b, off, none⟩) 1 c ∧ b < w.heap.size ∧ w.cell? ⟨b, off, none⟩ = some (.int .i64 m.node) ∧ w.cell? ⟨b, off + 1, none⟩ = some (.int .i64 m.ver) ∧ w.cell? ⟨b, off + 2, none⟩ = some (.bool m.up) := by
  obtain ⟨A, n, c, rfl, h2, h3, h4, h5⟩ := h
  obtain ⟨b, off, hA, hb, hc⟩ := h4 (by simp)
  obtain ⟨c1, c2, c3⟩ := hc 0 m rfl
  simp at h2
  subst h2; subst hA
  exact ⟨b, off, c, rfl, hb, by simpa using c1, by simpa using c2, by simpa using c3⟩
end Go.Proofs.YtachfnmbhhppbaaDoor
