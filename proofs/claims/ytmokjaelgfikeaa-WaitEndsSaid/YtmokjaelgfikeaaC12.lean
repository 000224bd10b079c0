/- WaitRows. -/
import Derived.Test.YtmokjaelgfikeaaProg
import Derived.Below
import Derived.WalkKit
import Derived.KernelRfl
import Derived.RowKit
import Derived.RowKit3
import Derived.Tactics
import Derived.Deep.QuietTactic
import Derived.BigQuiet
import Derived.OwnWalk
import Derived.Outline
import Derived.Handy
import Derived.StillTailTactics
import Derived.Deep.RegionHeld3
import Derived.Deep.DeepCutAuto
import Derived.Deep.CutBlock
import Derived.Shelf.Abstract
import Derived.Shelf.SlSortCmp.QuietGrown
import Derived.Lib.SliceRun
import Derived.Sort.OwnSortedInts
import Derived.Lib.SlicesCompact
import Derived.Lib.SmallJoins
import Derived.SliceStrings
import Derived.ArgAppend
import Derived.Deep.AppendSrc
import Derived.Deep.Upon
import Derived.Deep.Slices
import Derived.ChangeSame
import Derived.Maps.OwnSet
import Derived.Maps.Range
import Derived.Maps.OwnOps
import Derived.Lib.SlKeysI
import Derived.Maps.Views
import Derived.Maps.AppendAt
import Derived.Test.YtmokjaelgfikeaaC11
namespace Go.Proofs.Ytmokjaelgfikeaa.K
open Go.RowKit
set_option linter.unusedSimpArgs false
set_option linter.unusedVariables false
attribute [local go_sem] bc_alloc2 bc_alloc3 s_alloc_drewN s_setCell_drewN bc_alloc bc_drewN bc_drew

/-- Waits 0, 1, ..: each for the one that g tells. -/
def StepP (g : Nat → Int) (L : List WaitV) : Prop := ∀ i (h : i < L.length), L[i].o = (i : Int) ∧ L[i].f = [g i]
theorem step_app {g : Nat → Int} {L : List WaitV} (h : StepP g L) {x : WaitV} (ho : x.o = (L.length : Int)) (hf : x.f = [g L.length]) : StepP g (L ++ [x]) := by
  intro i hi
  rw [List.length_append] at hi
  simp only [List.length_singleton] at hi
  by_cases e : i < L.length
  · rw [List.getElem_append_left e]
    exact h i e
  · have : i = L.length := by omega
    subst this
    rw [List.getElem_append_right (Nat.le_refl _)]
    simp [ho, hf]
theorem step_whom {g : Nat → Int} {L : List WaitV} (h : StepP g L) {i : Nat} (hi : i < L.length) : whomL L (i : Int) = [g i] := by
  rw [whom_hit hi (by rw [(h i hi).1]; simp) (fun j hj hji => by rw [(h j hj).1]; simp; omega)]
  exact (h i hi).2
theorem step_none {g : Nat → Int} {L : List WaitV} (h : StepP g L) {y : Int} (hy : y < 0 ∨ (L.length : Int) ≤ y) : whomL L y = [] :=
  whom_miss fun j hj => by rw [(h j hj).1]; simp; omega
theorem step_in {g : Nat → Int} {L : List WaitV} (h : StepP g L) {y z : Int} (hz : z ∈ whomL L y) : ∃ i : Nat, i < L.length ∧ y = i ∧ z = g i := by
  by_cases hy : y < 0 ∨ (L.length : Int) ≤ y
  · rw [step_none h hy] at hz
    cases hz
  · obtain ⟨i, rfl⟩ : ∃ i : Nat, y = (i : Int) := ⟨y.toNat, by omega⟩
    have hi : i < L.length := by omega
    rw [step_whom h hi] at hz
    exact ⟨i, hi, rfl, by simpa using hz⟩
theorem step_may {g : Nat → Int} {L : List WaitV} (h : StepP g L) (hg : ∀ i : Nat, i < L.length → 0 ≤ g i ∧ g i ≠ (i : Int)) (hl : L.length ≤ 6) : MayW L := by
  refine ⟨fun x hx => ?_, hl, ?_, ?_⟩
  · obtain ⟨i, hi, rfl⟩ := List.mem_iff_getElem.1 hx
    rw [(h i hi).1, (h i hi).2]
    exact ⟨⟨by simp [(hg i hi).1], by simp⟩, by have := (hg i hi).2; simp; omega⟩
  · intro z hz
    obtain ⟨x, hx, rfl⟩ := List.mem_map.1 hz
    obtain ⟨i, hi, rfl⟩ := List.mem_iff_getElem.1 hx
    rw [(h i hi).1]
    omega
  · rw [List.pairwise_iff_getElem]
    intro i j hi hj hij
    rw [List.length_map] at hi hj
    rw [List.getElem_map, List.getElem_map, (h i hi).1, (h j hj).1]
    omega
theorem wfI_of {z : Int} (h0 : -1000 ≤ z) (h1 : z ≤ 1000) : wfI z = true := by
  have e : IntKind.i64.min = -9223372036854775808 := by decide
  simp [wfI, Lit.wf, e]
  omega
theorem step_wf {g : Nat → Int} {L : List WaitV} (h : StepP g L) (hg : ∀ i : Nat, i < L.length → 0 ≤ g i ∧ g i ≤ 100) : WfW L := by
  intro x hx z hz
  obtain ⟨i, hi, rfl⟩ := List.mem_iff_getElem.1 hx
  rw [(h i hi).2] at hz
  have := hg i hi
  rw [List.mem_singleton.1 hz]
  exact wfI_of (by omega) (by omega)
theorem sum_le : ∀ {L : List WaitV} (k : Nat), (∀ x ∈ L, x.f.length ≤ k) → sumF L ≤ L.length * k
  | [], _, _ => by simp [sumF, remW]
  | x :: T, k, h => by
    have h1 := sum_le (L := T) k (fun y hy => h y (List.mem_cons_of_mem _ hy))
    have h2 := h x List.mem_cons_self
    simp only [sumF, remW, List.not_mem_nil, if_false, List.length_cons] at h1 ⊢
    rw [Nat.add_mul]
    omega
theorem step_sum {g : Nat → Int} {L : List WaitV} (h : StepP g L) (hl : L.length ≤ 6) : sumF L ≤ 1000000 := by
  have := sum_le (L := L) 1 (fun x hx => by
    obtain ⟨i, hi, rfl⟩ := List.mem_iff_getElem.1 hx
    rw [(h i hi).2]
    simp)
  omega
/-- A row of waits. -/
abbrev rowG (i : Nat) : Int := (i : Int) + 1
theorem row_reach {L : List WaitV} (h : StepP rowG L) {o : Nat} {z : Int} : Reaches L (o : Int) z ↔ (o : Int) < z ∧ z ≤ (L.length : Int) := by
  constructor
  · intro hr
    refine hr (fun z => (o : Int) < z ∧ z ≤ (L.length : Int)) (fun y hy => ?_) (fun y hy x hx => ?_)
    · obtain ⟨i, hi, e1, e2⟩ := step_in h hy
      simp only [rowG] at e2
      omega
    · obtain ⟨i, hi, e1, e2⟩ := step_in h hx
      simp only [rowG] at e2
      omega
  · rintro ⟨h1, h2⟩
    obtain ⟨k, rfl⟩ : ∃ k : Nat, z = (o : Int) + 1 + k := ⟨(z - o - 1).toNat, by omega⟩
    clear h1
    induction k with
    | zero =>
      refine reach_here ?_
      rw [step_whom h (by omega)]
      simp [rowG]
    | succ k ih =>
      refine reach_more (ih (by omega)) ?_
      rw [show (o : Int) + 1 + (k : Int) = ((o + 1 + k : Nat) : Int) by omega, step_whom h (by omega)]
      simp [rowG]
      omega
theorem row_len {L : List WaitV} (h : StepP rowG L) {o : Nat} (ho : o ≤ L.length) {xs : List Int} (hx : IsR L (o : Int) xs) : xs.length = L.length - o := by
  have e : xs = (List.range (L.length - o)).map (fun i : Nat => (o : Int) + 1 + (i : Int)) := by
    refine strict_unique hx.1 ?_ fun z => ?_
    · unfold Strict
      rw [List.pairwise_iff_getElem]
      intro i j hi hj hij
      rw [List.getElem_map, List.getElem_map, List.getElem_range, List.getElem_range]
      omega
    · rw [hx.2, row_reach h, List.mem_map]
      constructor
      · rintro ⟨h1, h2⟩
        exact ⟨(z - o - 1).toNat, List.mem_range.2 (by omega), by omega⟩
      · rintro ⟨i, hi, rfl⟩
        have := List.mem_range.1 hi
        omega
  rw [e]
  simp
theorem row_round {L : List WaitV} (h : StepP rowG L) {o : Nat} {xs : List Int} (hx : IsO L (o : Int) xs) : xs = [] := by
  apply List.eq_nil_iff_forall_not_mem.2
  intro z hz
  obtain ⟨h1, h2⟩ := (hx.2 z).1 hz
  have h3 := row_reach h |>.1 h1
  obtain ⟨k, rfl⟩ : ∃ k : Nat, z = (k : Int) := ⟨z.toNat, by omega⟩
  have h4 := row_reach h |>.1 h2
  omega
set_option maxRecDepth 100000 in
set_option maxHeartbeats 8000000 in
theorem Rows (AL AA AN : Option Addr) (nL cL nA cA nN cN : Nat) (w : World) : Calls Try.prog 5 #[.agg #[.slice AL nL cL, .slice AA nA cA, .slice AN nN cN]] w (Ret (.bool true) w) := by
  have h0 := bc_refl w
  go_enter Try.func5, Try.ntmps5
  go_wp2_with (go_at_call 17; refine (Within5 _ _).mono ?_; rintro e v1 ⟨r, hr, rfl, hb⟩; have HX := hid (bc_trans (bc_alloc (bc_refl _) _) hb : BelowC w v1); clear hb)
  go_loopg [4, 5] (r + 2) (fun g u y wr => ∃ (k : Nat) (L : List WaitV), k ≤ r + 2 ∧ g = r + 2 - k ∧ y = .int .i64 k ∧ Hid (OwnW wr w u L) ∧ Hid (NsA wr u L) ∧ Hid (StepP rowG L ∧ L.length = k) ∧ BelowC w wr)
  case atStart => exact ⟨0, [], by omega, by omega, rfl, hid (ownW_nil _ _), hid (nsA_nil _ _), hid ⟨fun i hi => absurd hi (by simp), rfl⟩, HX.out⟩
  case round =>
    obtain ⟨k, L, hk, rfl, rfl, HO, HNs, HP, HK⟩ := hrel
    rename World => wK
    by_cases hlt : k < r + 2
    · have d1 : decide ((k : Int) < 2 + (r : Int)) = true := decide_eq_true (by omega)
      have i1 : (k : Int) < 2 + (r : Int) := by omega
      have HZN := hid (one_ns wK ((k : Int) + 1))
      have HZW := hid (one_wt (wK.alloc (.cells #[.int .i64 ((k : Int) + 1)] 3)) ⟨(k : Int), some ⟨wK.heap.size, 0, none⟩, 1, 1, [(k : Int) + 1]⟩ HZN.out (wK.heap.size + 1) (by simp))
      have HZA : Hid (NsA ((wK.alloc (.cells #[.int .i64 ((k : Int) + 1)] 3)).alloc (.cells #[.int .i64 (k : Int), .slice (some ⟨wK.heap.size, 0, none⟩) 1 1] 41)) _ (L ++ [⟨(k : Int), some ⟨wK.heap.size, 0, none⟩, 1, 1, [(k : Int) + 1]⟩])) := hid (nsA_app (nsA_below HNs.out (bc_alloc2 (bc_refl _) _ _)) (fun x hx => by
        obtain rfl := List.mem_singleton.1 hx
        exact ⟨HZN.out.below (bc_alloc (bc_refl _) _), fun a e => by cases e; exact ⟨_, rfl, by simp; omega, own_blk HO.out (Nat.le_refl _)⟩⟩))
      go_wp2_with (at_builtin; (fail_if_success have := hcs); refine pause ?_)
      unfold Pause
      refine app27 (b := w) rfl (.tmp 25) (.tmp 31) rfl _ L rfl (ownW_below HO.out (bc_alloc2 (bc_refl _) _ _)) ⟨wK.heap.size + 1, 0, none⟩ 1 1 [⟨(k : Int), some ⟨wK.heap.size, 0, none⟩, 1, 1, [(k : Int) + 1]⟩] rfl HZW.out (by have := HP.out.2; omega) (bc_alloc2 HK _ _) ?_
      intro v' w1 hO1 hg hat hB1
      have HO1 := hid hO1
      have HN1 := hid (nsA_step HZA.out hg hat)
      clear hO1 hg hat
      go_wp2_with fail
      go_roundg (r + 2 - (k + 1))
      case measure => omega
      case rel => exact ⟨k + 1, L ++ [⟨(k : Int), some ⟨wK.heap.size, 0, none⟩, 1, 1, [(k : Int) + 1]⟩], by omega, rfl, by go_num, HO1, HN1, hid ⟨step_app HP.out.1 (by rw [HP.out.2]) (by rw [HP.out.2]), by rw [List.length_append, HP.out.2]; rfl⟩, hB1⟩
    · have d1 : decide ((k : Int) < 2 + (r : Int)) = false := decide_eq_false (by omega)
      obtain ⟨A, n, c, rfl, hnL, hnc, hW⟩ := ownW_form HO.out (nsA_ns HNs.out)
      have hlr : L.length = r + 2 := by have := HP.out.2; omega
      obtain rfl : n = r + 2 := hnL.trans hlr
      have HW := hid hW
      have HST := hid HP.out.1
      have HLR := hid hlr
      have HMY := hid (step_may HST.out (fun i _ => by simp only [rowG]; omega) (by omega : L.length ≤ 6))
      have HWF := hid (step_wf HST.out (fun i hi => by simp only [rowG]; omega))
      have HSM := hid (step_sum HST.out (by omega : L.length ≤ 6))
      have hKK := bc_refl wK
      clear hnL hnc hW hlr
      go_wp2_with fail
      go_loopg [6, 7, 8, 9, 10] (r + 3) (fun g y _ _ _ _ wr => ∃ o : Nat, o ≤ r + 3 ∧ g = r + 3 - o ∧ y = .int .i64 o ∧ BelowC wK wr)
      case atStart => exact ⟨0, by omega, by omega, rfl, hKK⟩
      case round =>
        obtain ⟨o, ho, rfl, rfl, HZ⟩ := hrel
        rename World => wZ
        by_cases hlo : o ≤ r + 2
        · have d2 : decide ((o : Int) ≤ 2 + (r : Int)) = true := decide_eq_true (by omega)
          have i2 : (o : Int) ≤ 2 + (r : Int) := by omega
          go_upto_region 12 with (first | (go_at_call 18; refine (Reach A (r + 2) c L o _ (HW.out.below HZ) HMY.out HWF.out HSM.out).mono ?_; rintro e v2 ⟨A2, n2, c2, xs, rfl, -, hn2, hx, hb⟩; have HX2 : BelowC wK v2 := bc_trans HZ hb; have hn2' := hn2.trans (row_len HST.out (by have := HLR.out; omega) hx); rw [HLR.out] at hn2'; clear hb hn2 hx) | (go_at_call 11; refine (Circle A (r + 2) c L o _ (HW.out.below HX2) HMY.out HWF.out HSM.out).mono ?_; rintro e v3 ⟨A3, n3, c3, ys, rfl, -, hn3, hy, hb⟩; have HX3 : BelowC wK v3 := bc_trans HX2 hb; obtain rfl := row_round HST.out hy; obtain rfl : n3 = 0 := hn3; clear hb hy))
          have e1 : ((n2 : Int) != 2 + (r : Int) - (o : Int)) = false := by simp; omega
          go_wp2_with (go_at_call 13; refine (num' _ _).mono ?_; rintro ee _ ⟨rfl, rfl⟩)
          go_roundg (r + 3 - (o + 1))
          case measure => omega
          case rel => exact ⟨o + 1, by omega, rfl, by go_num, HX3⟩
        · have d2 : decide ((o : Int) ≤ 2 + (r : Int)) = false := decide_eq_false (by omega)
          go_wp2_with (go_at_call 16; refine (wakes _).mono ?_; rintro e v4 ⟨rfl, hb⟩; have HX4 : BelowC w v4 := bc_step (bc_trans HK HZ) hb; clear hb)
          go_returns
          exact ⟨rfl, HX4⟩
end Go.Proofs.Ytmokjaelgfikeaa.K
