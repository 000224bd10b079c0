/- WaitEnds: the plain law. -/
import Derived.Test.YtmokjaelgfikeaaProg
import Derived.Below
import Derived.WalkKit
import Derived.KernelRfl
import Derived.RowKit
import Derived.RowKit3
import Derived.Tactics
import Derived.Deep.QuietTactic
import Derived.BigQuiet
import Derived.OwnWalk
import Derived.Outline
import Derived.Handy
import Derived.StillTailTactics
import Derived.Deep.RegionHeld3
import Derived.Deep.DeepCutAuto
import Derived.Deep.CutBlock
import Derived.Shelf.Abstract
import Derived.Shelf.SlSortCmp.QuietGrown
import Derived.Lib.SliceRun
import Derived.Sort.OwnSortedInts
import Derived.Lib.SlicesCompact
import Derived.Lib.SmallJoins
import Derived.SliceStrings
import Derived.ArgAppend
import Derived.Deep.AppendSrc
import Derived.Deep.Upon
import Derived.Deep.Slices
import Derived.ChangeSame
import Derived.Maps.OwnSet
import Derived.Maps.Range
import Derived.Maps.OwnOps
import Derived.Lib.SlKeysI
import Derived.Maps.Views
import Derived.Maps.AppendAt
import Derived.Test.YtmokjaelgfikeaaC19
namespace Go.Proofs.Ytmokjaelgfikeaa.K
open Go.RowKit
set_option linter.unusedSimpArgs false
set_option linter.unusedVariables false
attribute [local go_sem] bc_alloc2 bc_alloc3 s_alloc_drewN s_setCell_drewN bc_alloc bc_drewN bc_drew

theorem reach_inv {L : List WaitV} {o z : Int} (h : Reaches L o z) : z ∈ whomL L o ∨ ∃ y, Reaches L o y ∧ z ∈ whomL L y := by
  have hb : Reaches L o z ∧ (z ∈ whomL L o ∨ ∃ y, Reaches L o y ∧ z ∈ whomL L y) := h (fun z => Reaches L o z ∧ (z ∈ whomL L o ∨ ∃ y, Reaches L o y ∧ z ∈ whomL L y)) (fun y hy => ⟨reach_here hy, .inl hy⟩) (fun y hy x hx => ⟨reach_more hy.1 hx, .inr ⟨y, hy.1, hx⟩⟩)
  exact hb.2
theorem reach_trans {L : List WaitV} {a b c : Int} (h1 : Reaches L a b) (h2 : Reaches L b c) : Reaches L a c :=
  h2 (fun z => Reaches L a z) (fun y hy => reach_more h1 hy) (fun y hy x hx => reach_more hy hx)
theorem no_self {L : List WaitV} (h : MayW L) {o : Int} : o ∉ whomL L o := by
  intro ho
  obtain ⟨x, hx, e, hz⟩ := whom_ex ho
  exact (h.1 x hx).2 (by rw [e]; exact hz)
/-- A circle has two members at least. -/
theorem circle_two {L : List WaitV} (h : MayW L) {o : Int} {xs : List Int} (hx : IsO L o xs) (h0 : xs ≠ []) : ∃ a b, a ∈ xs ∧ b ∈ xs ∧ a ≠ b := by
  obtain ⟨z, T, e⟩ := List.exists_cons_of_ne_nil h0
  have hz := (hx.2 z).1 (by rw [e]; exact List.mem_cons_self)
  have hoo := reach_trans hz.1 hz.2
  rcases reach_inv hoo with h1 | ⟨y, h1, h2⟩
  · exact absurd h1 (no_self h)
  · refine ⟨o, y, (hx.2 o).2 ⟨hoo, hoo⟩, (hx.2 y).2 ⟨h1, reach_here h2⟩, fun e => ?_⟩
    rw [← e] at h2
    exact no_self h h2
theorem two_len {xs : List Int} {a b : Int} (ha : a ∈ xs) (hb : b ∈ xs) (h : a ≠ b) : 2 ≤ xs.length := by
  match xs, ha, hb with
  | [x], ha, hb => exact absurd ((List.mem_singleton.1 ha).trans (List.mem_singleton.1 hb).symm) h
  | _ :: _ :: _, _, _ => simp
theorem age_ne {l : List Int} (hu : UnlikeP l) {a b : Int} (ha : agedB l a = true) (hb : agedB l b = true) (h : a ≠ b) : ageAt l a ≠ ageAt l b := by
  simp only [agedB, Bool.and_eq_true, decide_eq_true_eq] at ha hb
  obtain ⟨i, rfl⟩ : ∃ i : Nat, a = (i : Int) := ⟨a.toNat, by omega⟩
  obtain ⟨j, rfl⟩ : ∃ j : Nat, b = (j : Int) := ⟨b.toNat, by omega⟩
  have hi : i < l.length := by omega
  have hj : j < l.length := by omega
  have ei : ageAt l (i : Int) = l[i] := by rw [ageAt, show ((i : Int)).toNat = i by omega, getI hi]
  have ej : ageAt l (j : Int) = l[j] := by rw [ageAt, show ((j : Int)).toNat = j by omega, getI hj]
  have gi : l[i] ≠ 0 := fun e => by have := ha.2.2; rw [show ((i : Int)).toNat = i by omega, getI hi, e] at this; simp at this
  have gj : l[j] ≠ 0 := fun e => by have := hb.2.2; rw [show ((j : Int)).toNat = j by omega, getI hj, e] at this; simp at this
  have pi := hu.1 _ (List.getElem_mem hi)
  have pj := hu.1 _ (List.getElem_mem hj)
  rw [ei, ej]
  have hp := List.pairwise_iff_getElem.1 hu.2
  rcases Nat.lt_trichotomy i j with h1 | h1 | h1
  · exact hp i j hi hj h1 (by omega)
  · exact absurd (by rw [h1]) h
  · exact fun e => hp j i hj hi h1 (by omega) e.symm
/-- One of the circle is older than the victim. -/
theorem older_one {L : List WaitV} {l : List Int} (hm : MayW L) (hu : UnlikeP l) (ha : AgedW l L) {o v : Int} {xs : List Int} (hx : IsO L o xs) (hv : v ∈ xs) (hmax : ∀ x ∈ xs, ageAt l x ≤ ageAt l v) : ∃ x ∈ xs, ageAt l x < ageAt l v := by
  have hag : ∀ x ∈ xs, agedB l x = true := fun x h => by
    obtain ⟨y, hy, hz⟩ := reach_in ((hx.2 x).1 h).1
    exact (ha y hy).2 x hz
  obtain ⟨a, b, h1, h2, h3⟩ := circle_two hm hx (fun e => by rw [e] at hv; cases hv)
  by_cases e : a = v
  · have := age_ne hu (hag b h2) (hag v hv) (fun e2 => h3 (by rw [e, e2]))
    have := hmax b h2
    exact ⟨b, h2, by omega⟩
  · have := age_ne hu (hag a h1) (hag v hv) e
    have := hmax a h1
    exact ⟨a, h1, by omega⟩
/-- The waits without v. -/
def RestW (L : List WaitV) (v : Int) (M : List WaitV) : Prop := M.map (fun x => (x.o, x.f)) = (L.filter fun x => !(x.o == v)).map (fun x => (x.o, x.f.filter fun z => !(z == v)))
theorem rest_mem {L M : List WaitV} {v : Int} (h : RestW L v M) {x : WaitV} (hx : x ∈ M) : ∃ y ∈ L, x.o = y.o ∧ x.f = y.f.filter (fun z => !(z == v)) := by
  have : (x.o, x.f) ∈ M.map (fun x => (x.o, x.f)) := List.mem_map.2 ⟨x, hx, rfl⟩
  rw [h] at this
  obtain ⟨y, hy, e⟩ := List.mem_map.1 this
  simp only [Prod.mk.injEq] at e
  exact ⟨y, (List.mem_filter.1 hy).1, e.1.symm, e.2.symm⟩
theorem rest_os {L M : List WaitV} {v : Int} (h : RestW L v M) : M.map (·.o) = (L.filter fun x => !(x.o == v)).map (·.o) := by
  have := congrArg (List.map Prod.fst) h
  simpa [List.map_map, Function.comp_def] using this
theorem rest_may {L M : List WaitV} {v : Int} (h : RestW L v M) (hm : MayW L) : MayW M := by
  have hos := rest_os h
  have hsub : (M.map (·.o)).Sublist (L.map (·.o)) := by rw [hos]; exact List.filter_sublist.map _
  refine ⟨fun x hx => ?_, ?_, fun z hz => hm.2.2.1 z (hsub.subset hz), hm.2.2.2.sublist hsub⟩
  · obtain ⟨y, hy, e1, e2⟩ := rest_mem h hx
    obtain ⟨h1, h2⟩ := hm.1 y hy
    rw [e1, e2]
    exact ⟨⟨fun z hz => h1.1 z (List.mem_filter.1 hz).1, h1.2.filter _⟩, fun hz => h2 (List.mem_filter.1 hz).1⟩
  · have := hsub.length_le
    rw [List.length_map, List.length_map] at this
    have := hm.2.1
    omega
theorem rest_wf {L M : List WaitV} {v : Int} (h : RestW L v M) (hm : WfW L) : WfW M := fun x hx z hz => by
  obtain ⟨y, hy, _, e2⟩ := rest_mem h hx
  rw [e2] at hz
  exact hm y hy z (List.mem_filter.1 hz).1
theorem rest_aged {L M : List WaitV} {v : Int} {l : List Int} (h : RestW L v M) (hm : AgedW l L) : AgedW l M := fun x hx => by
  obtain ⟨y, hy, e1, e2⟩ := rest_mem h hx
  obtain ⟨h1, h2⟩ := hm y hy
  rw [e1, e2]
  exact ⟨h1, fun z hz => h2 z (List.mem_filter.1 hz).1⟩
theorem rest_fl {L M : List WaitV} {v : Int} {k : Nat} (h : RestW L v M) (hm : ∀ x ∈ L, x.f.length ≤ k) : ∀ x ∈ M, x.f.length ≤ k := fun x hx => by
  obtain ⟨y, hy, _, e2⟩ := rest_mem h hx
  rw [e2]
  exact Nat.le_trans (List.length_filter_le _ _) (hm y hy)
theorem rest_len {L M : List WaitV} {v : Int} (h : RestW L v M) (hv : ∃ x ∈ L, x.o = v) : M.length < L.length := by
  have e := congrArg List.length h
  rw [List.length_map, List.length_map] at e
  rw [e]
  obtain ⟨x, hx, hxv⟩ := hv
  exact List.length_filter_lt_length_iff_exists.2 ⟨x, hx, by simp [hxv]⟩
/-- The victim waits. -/
theorem vic_waits {L : List WaitV} {o v : Int} {xs : List Int} (hx : IsO L o xs) (hv : v ∈ xs) : ∃ x ∈ L, x.o = v := by
  obtain ⟨h1, h2⟩ := (hx.2 v).1 hv
  have hvv := reach_trans h2 h1
  have : ∃ y, y ∈ whomL L v := by
    apply Classical.byContradiction
    intro hn
    have hf : ∀ z, Reaches L v z → False := fun z hz => hz (fun _ => False) (fun y hy => hn ⟨y, hy⟩) (fun y hy => hy.elim)
    exact hf _ hvv
  obtain ⟨y, hy⟩ := this
  obtain ⟨x, hx, e, _⟩ := whom_ex hy
  exact ⟨x, hx, e⟩
def ageE (a i : Nat) : Int := 1 + (((i * 5 + a) % 8 : Nat) : Int)
def ageEs (a k : Nat) : List Int := (List.range k).map (ageE a)
theorem ageEs_len (a k : Nat) : (ageEs a k).length = k := by simp [ageEs]
theorem ageEs_succ (a k : Nat) : ageEs a (k + 1) = ageEs a k ++ [ageE a k] := by simp [ageEs, List.range_succ]
theorem ageEs_get (a k : Nat) {i : Nat} (hi : i < (ageEs a k).length) : (ageEs a k)[i] = ageE a i := by simp [ageEs]
theorem injE : ∀ a, a < 8 → ∀ i, i < 8 → ∀ j, j < 8 → (i * 5 + a) % 8 = (j * 5 + a) % 8 → i = j := by decide +kernel
theorem ageE_pos (a i : Nat) : 1 ≤ ageE a i ∧ ageE a i ≤ 8 := by
  unfold ageE
  omega
theorem ageE_unlike (a : Nat) : UnlikeP (ageEs a 8) := by
  refine ⟨fun z hz => ?_, ?_⟩
  · obtain ⟨i, hi, rfl⟩ := List.mem_iff_getElem.1 hz
    rw [ageEs_get]
    have := ageE_pos a i
    omega
  · rw [List.pairwise_iff_getElem]
    intro i j hi hj hij _ e
    rw [ageEs_get, ageEs_get] at e
    rw [ageEs_len] at hi hj
    unfold ageE at e
    have := injE (a % 8) (by omega) i hi j hj (by omega)
    omega
theorem ageE_wf (a : Nat) : ∀ z ∈ ageEs a 8, wfI z = true := by
  intro z hz
  obtain ⟨i, hi, rfl⟩ := List.mem_iff_getElem.1 hz
  rw [ageEs_get]
  have := ageE_pos a i
  exact wfI_of (by omega) (by omega)
theorem same_may {L M : List WaitV} (h : SameW L M) : (MayW M ↔ MayW L) := by
  unfold SameW at h
  have key : ∀ {L M : List WaitV}, M.map (fun x => (x.o, x.f)) = L.map (fun x => (x.o, x.f)) → MayW L → MayW M := fun {L M} h hm => by
    have hos : M.map (·.o) = L.map (·.o) := by
      have := congrArg (List.map Prod.fst) h
      simpa [List.map_map, Function.comp_def] using this
    have hl := congrArg List.length hos
    rw [List.length_map, List.length_map] at hl
    refine ⟨fun x hx => ?_, by rw [hl]; exact hm.2.1, by rw [hos]; exact hm.2.2⟩
    have : (x.o, x.f) ∈ M.map (fun x => (x.o, x.f)) := List.mem_map.2 ⟨x, hx, rfl⟩
    rw [h] at this
    obtain ⟨y, hy, e⟩ := List.mem_map.1 this
    simp only [Prod.mk.injEq] at e
    rw [← e.1, ← e.2]
    exact hm.1 y hy
  exact ⟨key h.symm, key h⟩
theorem same_mem {L M : List WaitV} (h : SameW L M) {x : WaitV} (hx : x ∈ M) : ∃ y ∈ L, x.o = y.o ∧ x.f = y.f := by
  have : (x.o, x.f) ∈ M.map (fun x => (x.o, x.f)) := List.mem_map.2 ⟨x, hx, rfl⟩
  rw [h] at this
  obtain ⟨y, hy, e⟩ := List.mem_map.1 this
  simp only [Prod.mk.injEq] at e
  exact ⟨y, hy, e.1.symm, e.2.symm⟩
theorem all_aged {L : List WaitV} {l : List Int} (h : (allL L).all (agedB l) = true) : AgedW l L := fun x hx => by
  have h' := List.all_eq_true.1 h
  have hm : ∀ z ∈ x.o :: x.f, z ∈ allL L := fun z hz => List.mem_flatMap.2 ⟨x, hx, hz⟩
  exact ⟨h' _ (hm _ List.mem_cons_self), fun z hz => h' _ (hm _ (List.mem_cons_of_mem _ hz))⟩
end Go.Proofs.Ytmokjaelgfikeaa.K
