/- The contracts in the words of ViewMerges; Ints. -/
import Derived.Test.YtachfnmbhhppbaaDoorW
namespace Go.Proofs.YtachfnmbhhppbaaDoor
set_option maxRecDepth 100000
open Go.RowKit

theorem iface_errT {k : Int} (h : k ≠ 0) : errT k = .iface 42 (.int .i64 k) := by rw [errT, if_neg h]
theorem nil_errT : errT 0 = .nilIface := rfl
/-- what the calls answer -/
def mrgL (a b : List Mem) : List Mem := if bothErr a b = 0 then mergeL a b else []
def nwrL (a b : List Mem) : List Mem := if bothErr a b = 0 then newerL a b else []
def alvL (a : List Mem) : List Int := if viewErr a = 0 then aliveL a else []
def bmpE (a : List Mem) (nd : Int) : Int := if viewErr a ≠ 0 then viewErr a else if ¬ (0 ≤ nd ∧ nd < 16) then 1 else if 1000000 < verOf a nd then 4 else 0
def bmpL (a : List Mem) (nd : Int) (up : Bool) : List Mem := if bmpE a nd = 0 then putL a (bumpM a nd up) else []

theorem View_s (v : Value) (a : List Mem) (w : World) (hv : SlR w v a) :
    Calls Tryd.prog 4 #[v] w fun e w' => e = .returned (.int .i64 (viewErr a)) ∧ Below w.heap.size w w' := by
  obtain ⟨A, n, c, rfl, h2, h3, h4, h5⟩ := hv
  exact View_any A n c a w h2 h4 h3
theorem Check_s (v : Value) (a : List Mem) (w : World) (hv : SlR w v a) :
    Calls Tryd.prog 6 #[v] w fun e w' => e = .returned (errT (viewErr a)) ∧ Below w.heap.size w w' := by
  obtain ⟨A, n, c, rfl, h2, h3, h4, h5⟩ := hv
  exact Check_any A n c a w h2 h4 h3
theorem Merge_s (v u : Value) (a b : List Mem) (w : World) (hv : SlR w v a) (hu : SlR w u b) :
    Calls Tryd.prog 9 #[v, u] w fun e w' => ∃ r, e = .returned (.tuple #[r, errT (bothErr a b)]) ∧ SlR w' r (mrgL a b) ∧ Below w.heap.size w w' := by
  by_cases h : bothErr a b = 0
  · have h' := (bothErr_zero a b).1 h
    rw [mrgL, if_pos h, h]
    exact Merge_v v u a b w hv hu h'.1 h'.2
  · obtain ⟨A, n, c, rfl, h2, h3, h4, h5⟩ := hv
    obtain ⟨B, n', c', rfl, k2, k3, k4, k5⟩ := hu
    rw [mrgL, if_neg h, iface_errT h]
    exact (Merge_bad A B n c n' c' a b w h2 k2 h4 k4 h3 k3 h).mono fun e w' ⟨e1, e3⟩ => ⟨_, e1, SlR.nil _, e3⟩
theorem Newer_s (v u : Value) (a b : List Mem) (w : World) (hv : SlR w v a) (hu : SlR w u b) :
    Calls Tryd.prog 10 #[v, u] w fun e w' => ∃ r, e = .returned (.tuple #[r, errT (bothErr a b)]) ∧ SlR w' r (nwrL a b) ∧ Below w.heap.size w w' := by
  by_cases h : bothErr a b = 0
  · have h' := (bothErr_zero a b).1 h
    rw [nwrL, if_pos h, h]
    exact Newer_v v u a b w hv hu h'.1 h'.2
  · obtain ⟨A, n, c, rfl, h2, h3, h4, h5⟩ := hv
    obtain ⟨B, n', c', rfl, k2, k3, k4, k5⟩ := hu
    rw [nwrL, if_neg h, iface_errT h]
    exact (Newer_bad A B n c n' c' a b w h2 k2 h4 k4 h3 k3 h).mono fun e w' ⟨e1, e3⟩ => ⟨_, e1, SlR.nil _, e3⟩
theorem verOf_big {a : List Mem} {nd : Int} (ha : Valid a) : 1000000 < verOf a nd ↔ ∃ x, get a nd = some x ∧ x.ver = 1000000 := by
  unfold verOf
  cases hx : get a nd with
  | none => simp
  | some x =>
    have := ha.2 x (get_mem hx)
    unfold okM at this
    constructor
    · intro h; exact ⟨x, rfl, by simp only at h; omega⟩
    · rintro ⟨y, hy, h⟩; cases hy; simp only; omega
theorem Bump_s (v : Value) (a : List Mem) (nd : Int) (up : Bool) (w : World) (hv : SlR w v a) :
    Calls Tryd.prog 14 #[v, .int .i64 nd, .bool up] w fun e w' => ∃ r, e = .returned (.tuple #[r, errT (bmpE a nd)]) ∧ SlR w' r (bmpL a nd up) ∧ Below w.heap.size w w' := by
  by_cases h : viewErr a = 0
  · have ha := (viewErr_zero a).1 h
    by_cases h0 : 0 ≤ nd ∧ nd < 16
    · by_cases h1 : 1000000 < verOf a nd
      · have e : bmpE a nd = 4 := by rw [bmpE, if_neg (by simpa using h), if_neg (by simpa using h0), if_pos h1]
        rw [bmpL, e, if_neg (by decide)]
        obtain ⟨x, hx, hxv⟩ := (verOf_big ha).1 h1
        obtain ⟨A, n, c, rfl, h2, h3, h4, h5⟩ := hv
        exact (Bump_full A n c a nd up w h2 h4 ha h0.1 h0.2 x hx hxv).mono fun e w' ⟨e1, e3⟩ => ⟨_, e1, SlR.nil _, e3⟩
      · have e : bmpE a nd = 0 := by rw [bmpE, if_neg (by simpa using h), if_neg (by simpa using h0), if_neg h1]
        rw [bmpL, e, if_pos rfl]
        refine Bump_v v a nd up w hv ha h0.1 h0.2 fun x hx => ?_
        have := (ha.2 x (get_mem hx)).2.2.2
        rcases Int.lt_or_le x.ver 1000000 with hl | hl
        · exact hl
        · exact absurd ((verOf_big ha).2 ⟨x, hx, by omega⟩) h1
    · have e : bmpE a nd = 1 := by rw [bmpE, if_neg (by simpa using h), if_pos h0]
      rw [bmpL, e, if_neg (by decide)]
      obtain ⟨A, n, c, rfl, h2, h3, h4, h5⟩ := hv
      exact (Bump_range A n c a nd up w h2 h4 ha h0).mono fun e w' ⟨e1, e3⟩ => ⟨_, e1, SlR.nil _, e3⟩
  · have e : bmpE a nd = viewErr a := by rw [bmpE, if_pos h]
    rw [bmpL, e, if_neg h, iface_errT h]
    obtain ⟨A, n, c, rfl, h2, h3, h4, h5⟩ := hv
    exact (Bump_bad A n c a nd up w h2 h4 h3 h).mono fun e w' ⟨e1, e3⟩ => ⟨_, e1, SlR.nil _, e3⟩
theorem RMerge_s (v u : Value) (a b : List Mem) (w : World) (hv : SlR w v a) (hu : SlR w u b) (hn : a.length ≤ 1000) (hn' : b.length ≤ 1000) :
    Calls Tryd.prog 7 #[v, u] w fun e w' => ∃ r, e = .returned r ∧ SlR w' r (RL a b 16) ∧ Below w.heap.size w w' := by
  obtain ⟨A, n, c, rfl, h2, h3, h4, h5⟩ := hv
  obtain ⟨B, n', c', rfl, k2, k3, k4, k5⟩ := hu
  exact (RMerge_any A B n c n' c' a b w h2 k2 h4 k4 (by omega) (by omega)).mono fun e w' ⟨r, e1, e2, e3⟩ => ⟨r, e1, SlR.own e2 (by have := RL_length a b 16; omega), e3⟩

/-! ints -/
def RdI (w : World) (B : Nat) (A : Option Addr) (l : List Int) : Prop :=
  0 < l.length → ∃ b off, A = some ⟨b, off, none⟩ ∧ b < B ∧ ∀ (k : Nat) (m : Int), l[k]? = some m → w.cell? ⟨b, off + k, none⟩ = some (.int .i64 m)
theorem RdI.below {w w' : World} {B : Nat} {A : Option Addr} {l : List Int} (h : RdI w B A l) (hb : Below B w w') : RdI w' B A l := by
  intro hl
  obtain ⟨b, off, hA, hlt, hc⟩ := h hl
  exact ⟨b, off, hA, hlt, fun k m hm => (hb.cell hlt).trans (hc k m hm)⟩
theorem RdI.more {w : World} {B B' : Nat} {A : Option Addr} {l : List Int} (h : RdI w B A l) (hb : B ≤ B') : RdI w B' A l := by
  intro hl
  obtain ⟨b, off, hA, hlt, hc⟩ := h hl
  exact ⟨b, off, hA, by omega, hc⟩
theorem RdI.at_ {w w' : World} {B : Nat} {A : Option Addr} {l : List Int} (h : RdI w B A l) (hb : Below B w w') {k : Nat} (hk : k < l.length) :
    ∃ (b off : Nat) (m : Int), A = some ⟨b, off, none⟩ ∧ b < B ∧ l[k]? = some m ∧ w'.cell? ⟨b, off + k, none⟩ = some (.int .i64 m) := by
  obtain ⟨b, off, hA, hlt, hc⟩ := (h.below hb) (by omega)
  exact ⟨b, off, l[k], hA, hlt, List.getElem?_eq_getElem hk, hc k _ (List.getElem?_eq_getElem hk)⟩
theorem RdI.of_own {w : World} {base n c : Nat} {A : Option Addr} {l : List Int} (h : w.ownsRow base 3 1 (.slice A n c) n (icells l)) : RdI w w.heap.size A l := by
  intro hl
  have hlen := h.1
  rw [icells, List.length_map] at hlen
  rcases h.2 with ⟨_, h0⟩ | ⟨g, cap, cur, hv, _, hg, _, _, hcs, htake⟩
  · omega
  · cases hv
    refine ⟨g, 0, rfl, (Array.getElem?_eq_some_iff.1 hg).1, fun k m hm => ?_⟩
    have hk := (List.getElem?_eq_some_iff.1 hm).1
    have hu : (icells l)[k]? = some (.int .i64 m) := by simp [icells, hm]
    rw [← htake, List.getElem?_take, if_pos (by omega)] at hu
    simp only [World.cell?, hg]
    simpa using hu
def SlI (w : World) (v : Value) (l : List Int) : Prop :=
  ∃ A n c, v = .slice A n c ∧ l.length = n ∧ RdI w w.heap.size A l
theorem SlI.below {w w' : World} {v : Value} {l : List Int} (h : SlI w v l) (hb : Below w.heap.size w w') : SlI w' v l := by
  obtain ⟨A, n, c, h1, h2, h4⟩ := h
  exact ⟨A, n, c, h1, h2, (h4.below hb).more hb.size⟩
theorem SlI.nil (w : World) : SlI w (.slice none 0 0) [] := ⟨none, 0, 0, rfl, rfl, fun h => absurd h (by simp)⟩
theorem SlI.own {w : World} {base n : Nat} {v : Value} {l : List Int} (h : w.ownsRow base 3 1 v n (icells l)) : SlI w v l := by
  obtain ⟨A, c, hv⟩ := own_slice h
  have hlen := h.1
  rw [icells, List.length_map] at hlen
  subst hv
  exact ⟨A, n, c, rfl, by omega, RdI.of_own h⟩
theorem Alive_s (v : Value) (a : List Mem) (w : World) (hv : SlR w v a) :
    Calls Tryd.prog 12 #[v] w fun e w' => ∃ r, e = .returned (.tuple #[r, errT (viewErr a)]) ∧ SlI w' r (alvL a) ∧ Below w.heap.size w w' := by
  obtain ⟨A, n, c, rfl, h2, h3, h4, h5⟩ := hv
  by_cases h : viewErr a = 0
  · rw [alvL, if_pos h, h]
    exact (Alive_ok A n c a w h2 h4 ((viewErr_zero a).1 h)).mono fun e w' ⟨r, e1, e2, e3⟩ => ⟨r, e1, SlI.own e2, e3⟩
  · rw [alvL, if_neg h, iface_errT h]
    exact (Alive_bad A n c a w h2 h4 h3 h).mono fun e w' ⟨e1, e3⟩ => ⟨_, e1, SlI.nil _, e3⟩

theorem Ints_s (v u : Value) (l : List Int) (w : World) (hv : SlI w v l) (hu : SlI w u l) (hn : l.length ≤ 1000) :
    Calls Tryd.prog 13 #[v, u] w fun e w' => e = .returned (.bool true) ∧ Below w.heap.size w w' := by
  obtain ⟨A, n, c, rfl, h2, h4⟩ := hv
  obtain ⟨A', n', c', rfl, h2', h4'⟩ := hu
  obtain rfl : n = n' := by omega
  have hn' : n ≤ 1000 := by omega
  have HL := Lib.hid h2; have HR := Lib.hid h4; have HR' := Lib.hid h4'
  clear h2 h2' h4 h4' hn
  go_enter Tryd.func13, Tryd.ntmps13
  go_wp2
  go_loopw [5] (fun i wr => ∃ k : Nat, k ≤ n ∧ i = .int .i64 k ∧ Below w.heap.size w wr) (fun i _ => n - (intOf i).toNat)
  case atStart => exact ⟨0, by omega, rfl, Below.refl _ _⟩
  case round =>
    obtain ⟨k, hk, rfl, hb⟩ := hrel
    by_cases hlt : k < n
    · obtain ⟨b, off, m, hA, hblk, hm, e1⟩ := HR.out.at_ hb (k := k) (by rw [HL.out]; omega)
      obtain ⟨b', off', m', hA', hblk', hm', f1⟩ := HR'.out.at_ hb (k := k) (by rw [HL.out]; omega)
      rw [hm] at hm'
      cases hm'
      subst hA; subst hA'
      clear hm
      go_wp2_with fail
      go_quiet (fail)
      go_wp2
      go_roundw
      case rel => exact ⟨k + 1, by omega, by go_num, below_drewN hb _⟩
      case measure => simp [intOf]; omega
    · go_wp2
      go_ret
      exact ⟨rfl, hb⟩
end Go.Proofs.YtachfnmbhhppbaaDoor
