/- Plain facts of ViewMerges; contracts by outcome. -/
import Derived.Test.YtachfnmbhhppbaaDoorX
namespace Go.Proofs.YtachfnmbhhppbaaDoor
set_option maxRecDepth 100000
open Go.RowKit

/-- what the law's own loop gathers -/
def tookB (a : List Mem) (m : Mem) : Bool := !((get a m.node).isSome && (getZ a m.node == m))
def tookL (a l : List Mem) : List Mem := l.filter (tookB a)
instance : LawfulBEq Mem := inferInstance
theorem tookL_merge {a b : List Mem} (ha : Valid a) (hb : Valid b) : tookL a (mergeL a b) = newerL a b :=
  ext (List.Pairwise.filter _ (srt_mergeL b ha.1)) (srt_newerL hb.1) fun t => by
    rw [tookL, get_filter _ (srt_mergeL b ha.1), newerL, get_filter _ hb.1, get_mergeL b ha.1 hb.1]
    cases hx : get a t with
    | none =>
      cases hy : get b t with
      | none => rfl
      | some y =>
        have hn := get_node hy
        simp [join, Option.filter, tookB, newB, hn, hx]
    | some x =>
      have hnx := get_node hx
      cases hy : get b t with
      | none => simp [join, Option.filter, tookB, hnx, hx, getZ]
      | some y =>
        have hn := get_node hy
        simp only [join, pick]
        by_cases hl : laterB y x = true
        · rw [if_pos hl]
          have hne : ¬ x = y := by
            rintro rfl
            rw [laterB_iff] at hl; omega
          simp [Option.filter, tookB, newB, hn, hx, hl, getZ, hne]
        · rw [if_neg hl]
          have hl' : laterB y x = false := by simpa using hl
          simp [Option.filter, tookB, newB, hn, hnx, hx, hl', getZ]
theorem tookL_snoc (a l : List Mem) (k : Nat) (m : Mem) (h : l[k]? = some m) : tookL a (l.take (k + 1)) = tookL a (l.take k) ++ (if tookB a m = true then [m] else []) := by
  obtain ⟨h1, h2⟩ := List.getElem?_eq_some_iff.1 h
  rw [List.take_succ_eq_append_getElem h1, h2, tookL, tookL, List.filter_append]
  congr 1
  by_cases hp : tookB a m = true <;> simp [hp]
theorem length_tookL (a l : List Mem) : (tookL a l).length ≤ l.length := List.length_filter_le _ _
theorem verOf_getZ (a : List Mem) (nd : Int) : verOf a nd = (getZ a nd).ver + 1 := by
  unfold verOf getZ
  cases get a nd <;> rfl
theorem getZ_ver {a : List Mem} (ha : Valid a) (nd : Int) : 0 ≤ (getZ a nd).ver ∧ (getZ a nd).ver ≤ 1000000 := by
  unfold getZ
  cases hx : get a nd with
  | none => simp [zeroM]
  | some x => have := ha.2 x (get_mem hx); unfold okM at this; simp only [Option.getD_some]; omega
theorem RL_one {a : List Mem} {nd : Int} {up : Bool} (ha : Valid a) (h0 : 0 ≤ nd) (h1 : nd ≤ 15) (hv : ¬ 1000000 < verOf a nd) : RL a [⟨nd, verOf a nd, up⟩] 16 = putL a (bumpM a nd up) := by
  have hz := (getZ_ver ha nd).1
  have e := verOf_getZ a nd
  rw [RL_merge ha ⟨by simp [Srt], fun m hm => by simp at hm; subst hm; unfold okM; simp only; omega⟩]
  rfl
theorem SlR.single {w : World} {b : Nat} {m : Mem} (hb : b < w.heap.size) (h0 : w.cell? ⟨b, 0, none⟩ = some (.int .i64 m.node)) (h1 : w.cell? ⟨b, 1, none⟩ = some (.int .i64 m.ver)) (h2 : w.cell? ⟨b, 2, none⟩ = some (.bool m.up)) : SlR w (.slice (some ⟨b, 0, none⟩) 1 1) [m] :=
  ⟨_, 1, 1, rfl, rfl, by omega, fun _ => ⟨b, 0, rfl, hb, fun k x hx => by
    rcases k with _ | k
    · simp at hx; subst hx; exact ⟨by simpa using h0, by simpa using h1, by simpa using h2⟩
    · simp at hx⟩, fun e => by cases e⟩

theorem View_k (v : Value) (a : List Mem) (k : Int) (w : World) (hv : SlR w v a) (hk : viewErr a = k) :
    Calls Tryd.prog 4 #[v] w fun e w' => e = .returned (.int .i64 k) ∧ Below w.heap.size w w' := by subst hk; exact View_s v a w hv
theorem Check_k (v : Value) (a : List Mem) (k : Int) (w : World) (hv : SlR w v a) (hk : viewErr a = k) :
    Calls Tryd.prog 6 #[v] w fun e w' => e = .returned (errT k) ∧ Below w.heap.size w w' := by subst hk; exact Check_s v a w hv
theorem Merge_k (v u : Value) (a b l : List Mem) (k : Int) (w : World) (hv : SlR w v a) (hu : SlR w u b) (hk : bothErr a b = k) (hl : mrgL a b = l) :
    Calls Tryd.prog 9 #[v, u] w fun e w' => ∃ r, e = .returned (.tuple #[r, errT k]) ∧ SlR w' r l ∧ Below w.heap.size w w' := by subst hk hl; exact Merge_s v u a b w hv hu
theorem Newer_k (v u : Value) (a b l : List Mem) (k : Int) (w : World) (hv : SlR w v a) (hu : SlR w u b) (hk : bothErr a b = k) (hl : nwrL a b = l) :
    Calls Tryd.prog 10 #[v, u] w fun e w' => ∃ r, e = .returned (.tuple #[r, errT k]) ∧ SlR w' r l ∧ Below w.heap.size w w' := by subst hk hl; exact Newer_s v u a b w hv hu
theorem Alive_k (v : Value) (a : List Mem) (l : List Int) (k : Int) (w : World) (hv : SlR w v a) (hk : viewErr a = k) (hl : alvL a = l) :
    Calls Tryd.prog 12 #[v] w fun e w' => ∃ r, e = .returned (.tuple #[r, errT k]) ∧ SlI w' r l ∧ Below w.heap.size w w' := by subst hk hl; exact Alive_s v a w hv
theorem Bump_k (v : Value) (a l : List Mem) (nd : Int) (up : Bool) (k : Int) (w : World) (hv : SlR w v a) (hk : bmpE a nd = k) (hl : bmpL a nd up = l) :
    Calls Tryd.prog 14 #[v, .int .i64 nd, .bool up] w fun e w' => ∃ r, e = .returned (.tuple #[r, errT k]) ∧ SlR w' r l ∧ Below w.heap.size w w' := by subst hk hl; exact Bump_s v a nd up w hv
/-- the error told is the one foretold -/
theorem Error_k (k : Int) (w : World) (hg : Gl w) :
    Calls Tryd.prog 5 #[errT k, .int .i64 k] w fun e w' => e = .returned (.bool true) ∧ Below w.heap.size w w' := Error_any _ k k true w rfl hg (by simp)
end Go.Proofs.YtachfnmbhhppbaaDoor
