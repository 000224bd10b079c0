/- Rings of waits: the plain law. -/
import Derived.Test.YtmokjaelgfikeaaProg
import Derived.Below
import Derived.WalkKit
import Derived.KernelRfl
import Derived.RowKit
import Derived.RowKit3
import Derived.Tactics
import Derived.Deep.QuietTactic
import Derived.BigQuiet
import Derived.OwnWalk
import Derived.Outline
import Derived.Handy
import Derived.StillTailTactics
import Derived.Deep.RegionHeld3
import Derived.Deep.DeepCutAuto
import Derived.Deep.CutBlock
import Derived.Shelf.Abstract
import Derived.Shelf.SlSortCmp.QuietGrown
import Derived.Lib.SliceRun
import Derived.Sort.OwnSortedInts
import Derived.Lib.SlicesCompact
import Derived.Lib.SmallJoins
import Derived.SliceStrings
import Derived.ArgAppend
import Derived.Deep.AppendSrc
import Derived.Deep.Upon
import Derived.Deep.Slices
import Derived.ChangeSame
import Derived.Maps.OwnSet
import Derived.Maps.Range
import Derived.Maps.OwnOps
import Derived.Lib.SlKeysI
import Derived.Maps.Views
import Derived.Maps.AppendAt
import Derived.Test.YtmokjaelgfikeaaC12
namespace Go.Proofs.Ytmokjaelgfikeaa.K
open Go.RowKit
set_option linter.unusedSimpArgs false
set_option linter.unusedVariables false
attribute [local go_sem] bc_alloc2 bc_alloc3 s_alloc_drewN s_setCell_drewN bc_alloc bc_drewN bc_drew

theorem whom_ex {L : List WaitV} {y z : Int} (h : z ∈ whomL L y) : ∃ x ∈ L, x.o = y ∧ z ∈ x.f := by
  unfold whomL at h
  split at h
  · rename_i x hx
    exact ⟨x, List.mem_of_find?_eq_some hx, by simpa using List.find?_some hx, h⟩
  · cases h
/-- A ring of n. -/
def ringG (n : Nat) (i : Nat) : Int := (((i + 1) % n : Nat) : Int)
theorem ring_reach {L : List WaitV} {n : Nat} (h : StepP (ringG n) L) (hl : L.length = n) {i z : Nat} (hi : i < n) (hz : z < n) : Reaches L (i : Int) (z : Int) := by
  have key : ∀ k : Nat, Reaches L (i : Int) (((i + k + 1) % n : Nat) : Int) := by
    intro k
    induction k with
    | zero =>
      refine reach_here ?_
      rw [step_whom h (by omega)]
      simp [ringG]
    | succ k ih =>
      refine reach_more ih ?_
      rw [step_whom h (by rw [hl]; exact Nat.mod_lt _ (by omega))]
      simp only [ringG, Nat.mod_add_mod, List.mem_singleton]
      rfl
  have := key (n + z - i - 1)
  rw [show i + (n + z - i - 1) + 1 = n + z by omega, Nat.add_mod_left, Nat.mod_eq_of_lt hz] at this
  exact this
theorem ring_round {L : List WaitV} {n : Nat} (h : StepP (ringG n) L) (hl : L.length = n) {o : Nat} (ho : o < n) {xs : List Int} (hx : IsO L (o : Int) xs) : xs = (List.range n).map (fun i : Nat => (i : Int)) := by
  refine strict_unique hx.1 ?_ fun z => ?_
  · unfold Strict
    rw [List.pairwise_iff_getElem]
    intro i j hi hj hij
    rw [List.getElem_map, List.getElem_map, List.getElem_range, List.getElem_range]
    omega
  · rw [hx.2, List.mem_map]
    constructor
    · rintro ⟨h1, _⟩
      obtain ⟨x, hx, hz⟩ := reach_in h1
      obtain ⟨i, hi, rfl⟩ := List.mem_iff_getElem.1 hx
      rw [(h i hi).2] at hz
      exact ⟨(i + 1) % n, List.mem_range.2 (Nat.mod_lt _ (by omega)), (List.mem_singleton.1 hz).symm⟩
    · rintro ⟨i, hi, rfl⟩
      have := List.mem_range.1 hi
      exact ⟨ring_reach h hl ho this, ring_reach h hl this ho⟩
def ageG (n b : Nat) (i : Nat) : Int := 1 + (((i + b) % n : Nat) : Int)
def ageL (n b k : Nat) : List Int := (List.range k).map (ageG n b)
theorem ageL_len (n b k : Nat) : (ageL n b k).length = k := by simp [ageL]
theorem ageL_succ (n b k : Nat) : ageL n b (k + 1) = ageL n b k ++ [ageG n b k] := by simp [ageL, List.range_succ]
theorem ageL_get (n b k : Nat) {i : Nat} (hi : i < (ageL n b k).length) : (ageL n b k)[i] = ageG n b i := by simp [ageL]
theorem ageL_at (n b k : Nat) {i : Nat} (hi : i < k) : ageAt (ageL n b k) (i : Int) = ageG n b i := by
  rw [ageAt, show ((i : Int)).toNat = i by omega, getI (by rw [ageL_len]; exact hi), ageL_get]
theorem age_pos {n : Nat} (hn : 0 < n) (b i : Nat) : 1 ≤ ageG n b i ∧ ageG n b i ≤ n := by
  unfold ageG
  have := Nat.mod_lt (i + b) hn
  omega
theorem inj5 : ∀ r, r < 5 → ∀ b, b < 7 → ∀ i, i < r + 2 → ∀ j, j < r + 2 → (i + b) % (r + 2) = (j + b) % (r + 2) → i = j := by decide +kernel
theorem age_inj {r b i j : Nat} (hr : r < 5) (hb : b < 7) (hi : i < r + 2) (hj : j < r + 2) (h : ageG (r + 2) b i = ageG (r + 2) b j) : i = j := by
  unfold ageG at h
  exact inj5 r hr b hb i hi j hj (by omega)
theorem age_unlike {r b : Nat} (hr : r < 5) (hb : b < 7) : UnlikeP (ageL (r + 2) b (r + 2)) := by
  refine ⟨fun z hz => ?_, ?_⟩
  · obtain ⟨i, hi, rfl⟩ := List.mem_iff_getElem.1 hz
    rw [ageL_get]
    have := age_pos (n := r + 2) (by omega) b i
    omega
  · rw [List.pairwise_iff_getElem]
    intro i j hi hj hij _ e
    rw [ageL_get, ageL_get] at e
    rw [ageL_len] at hi hj
    have := age_inj hr hb hi hj e
    omega
theorem age_wf {r b : Nat} (hr : r < 5) : ∀ z ∈ ageL (r + 2) b (r + 2), wfI z = true := by
  intro z hz
  obtain ⟨i, hi, rfl⟩ := List.mem_iff_getElem.1 hz
  rw [ageL_get]
  have := age_pos (n := r + 2) (by omega) b i
  exact wfI_of (by omega) (by omega)
theorem age_aged {n b : Nat} (hn : 0 < n) {i : Nat} (hi : i < n) : agedB (ageL n b n) (i : Int) = true := by
  have := age_pos hn b i
  simp only [agedB, Bool.and_eq_true, decide_eq_true_eq]
  refine ⟨by omega, by rw [ageL_len]; omega, ?_⟩
  rw [show ((i : Int)).toNat = i by omega, getI (by rw [ageL_len]; exact hi), ageL_get]
  simp
  omega
theorem ring_vic {L : List WaitV} {r b : Nat} (hr : r < 5) (hb : b < 7) (h : StepP (ringG (r + 2)) L) (hl : L.length = r + 2) {o y : Nat} (ho : o < r + 2) (hy : y < r + 2) (hmax : ∀ j, j < r + 2 → ageG (r + 2) b j ≤ ageG (r + 2) b y) {m E : Int} (hv : VicP L (ageL (r + 2) b (r + 2)) (o : Int) m E) : m = (y : Int) ∧ E = 0 := by
  obtain ⟨xs, hO, hm⟩ := hv
  have e := ring_round h hl ho hO
  rcases hm with ⟨e2, _⟩ | ⟨h1, h2, h3⟩
  · rw [e2] at e
    have := congrArg List.length e
    simp at this
  · refine ⟨?_, h3⟩
    rw [e] at h1 h2
    obtain ⟨j, hj, rfl⟩ := List.mem_map.1 h1
    have hj' := List.mem_range.1 hj
    have h4 := h2 (y : Int) (List.mem_map.2 ⟨y, List.mem_range.2 hy, rfl⟩)
    rw [ageL_at _ _ _ hy, ageL_at _ _ _ hj'] at h4
    have h5 := hmax j hj'
    have := age_inj hr hb hj' hy (by omega)
    rw [this]
/-- Without one of them. -/
def rankR (n k i : Nat) : Nat := if i ≤ k then k - i else k + n - i
theorem rank_next {n k i : Nat} (hi : i < n) (hk : k < n) (hne : i ≠ k) : rankR n k ((i + 1) % n) < rankR n k i := by
  unfold rankR
  by_cases e : i + 1 = n
  · rw [e, Nat.mod_self]
    split <;> split <;> omega
  · rw [Nat.mod_eq_of_lt (by omega)]
    split <;> split <;> omega
theorem cut_whom {L : List WaitV} {n k : Nat} (h : StepP (ringG n) L) (hl : L.length = n) {y z : Int} (hz : z ∈ whomL (L.eraseIdx k) y) : ∃ i : Nat, i < n ∧ i ≠ k ∧ y = i ∧ z = (((i + 1) % n : Nat) : Int) := by
  obtain ⟨x, hx, e, hzx⟩ := whom_ex hz
  obtain ⟨i, hne, hi, rfl⟩ : ∃ i, i ≠ k ∧ ∃ hi : i < L.length, x = L[i] := by
    obtain ⟨j, hj, rfl⟩ := List.mem_iff_getElem.1 hx
    have hjl := hj
    rw [List.length_eraseIdx] at hjl
    rw [List.getElem_eraseIdx]
    split
    · exact ⟨j, by omega, by split at hjl <;> omega, rfl⟩
    · exact ⟨j + 1, by omega, by split at hjl <;> omega, rfl⟩
  rw [(h i hi).1] at e
  rw [(h i hi).2] at hzx
  exact ⟨i, by omega, hne, e.symm, List.mem_singleton.1 hzx⟩
theorem cut_reach {L : List WaitV} {n k : Nat} (h : StepP (ringG n) L) (hl : L.length = n) (hk : k < n) {o : Nat} {z : Int} (hr : Reaches (L.eraseIdx k) (o : Int) z) : ∃ j : Nat, z = (j : Int) ∧ rankR n k j < rankR n k o := by
  refine hr (fun z => ∃ j : Nat, z = (j : Int) ∧ rankR n k j < rankR n k o) (fun y hy => ?_) (fun y hy x hx => ?_)
  · obtain ⟨i, hi, hne, e1, e2⟩ := cut_whom h hl hy
    obtain rfl : o = i := by omega
    exact ⟨_, e2, rank_next hi hk hne⟩
  · obtain ⟨j, rfl, hj⟩ := hy
    obtain ⟨i, hi, hne, e1, e2⟩ := cut_whom h hl hx
    obtain rfl : j = i := by omega
    exact ⟨_, e2, Nat.lt_trans (rank_next hi hk hne) hj⟩
theorem cut_round {L : List WaitV} {n k : Nat} (h : StepP (ringG n) L) (hl : L.length = n) (hk : k < n) {o : Nat} {xs : List Int} (hx : IsO (L.eraseIdx k) (o : Int) xs) : xs = [] := by
  apply List.eq_nil_iff_forall_not_mem.2
  intro z hz
  obtain ⟨h1, h2⟩ := (hx.2 z).1 hz
  obtain ⟨j, rfl, h3⟩ := cut_reach h hl hk h1
  obtain ⟨i, e, h4⟩ := cut_reach h hl hk h2
  obtain rfl : o = i := by omega
  omega
theorem cut_vic {L : List WaitV} {n k : Nat} {l : List Int} (h : StepP (ringG n) L) (hl : L.length = n) (hk : k < n) {o : Nat} {m E : Int} (hv : VicP (L.eraseIdx k) l (o : Int) m E) : m = 0 ∧ E = 3 := by
  obtain ⟨xs, hO, hm⟩ := hv
  have e := cut_round h hl hk hO
  subst e
  rcases hm with ⟨_, h1, h2⟩ | ⟨h1, _⟩
  · exact ⟨h1, h2⟩
  · cases h1
theorem may_sub {L M : List WaitV} (hs : M.Sublist L) (h : MayW L) : MayW M :=
  ⟨fun x hx => h.1 x (hs.subset hx), Nat.le_trans hs.length_le h.2.1, fun z hz => h.2.2.1 z ((hs.map _).subset hz), h.2.2.2.sublist (hs.map _)⟩
theorem wf_sub {L M : List WaitV} (hs : M.Sublist L) (h : WfW L) : WfW M := fun x hx => h x (hs.subset hx)
theorem aged_sub {L M : List WaitV} {l : List Int} (hs : M.Sublist L) (h : AgedW l L) : AgedW l M := fun x hx => h x (hs.subset hx)
theorem sum_sub {L M : List WaitV} {g : Nat → Int} (hs : M.Sublist L) (h : StepP g L) (hl : L.length ≤ 6) : sumF M ≤ 1000000 := by
  have := sum_le (L := M) 1 (fun x hx => by
    obtain ⟨i, hi, rfl⟩ := List.mem_iff_getElem.1 (hs.subset hx)
    rw [(h i hi).2]
    simp)
  have := hs.length_le
  omega
theorem ring_aged {L : List WaitV} {n b : Nat} (hn : 0 < n) (h : StepP (ringG n) L) (hl : L.length = n) : AgedW (ageL n b n) L := by
  intro x hx
  obtain ⟨i, hi, rfl⟩ := List.mem_iff_getElem.1 hx
  rw [(h i hi).1, (h i hi).2]
  refine ⟨age_aged hn (by omega), fun z hz => ?_⟩
  rw [List.mem_singleton.1 hz]
  exact age_aged hn (Nat.mod_lt _ hn)
theorem ring_step {n : Nat} (hn : 2 ≤ n) {i : Nat} (hi : i < n) : 0 ≤ ringG n i ∧ ringG n i ≠ (i : Int) ∧ ringG n i < n := by
  unfold ringG
  have := Nat.mod_lt (i + 1) (show 0 < n by omega)
  refine ⟨by omega, ?_, by omega⟩
  by_cases e : i + 1 = n
  · rw [e, Nat.mod_self]
    omega
  · rw [Nat.mod_eq_of_lt (by omega)]
    omega
end Go.Proofs.Ytmokjaelgfikeaa.K
