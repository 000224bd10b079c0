/- Closures. -/
import Derived.Test.YtmokjaelgfikeaaProg
import Derived.Below
import Derived.WalkKit
import Derived.KernelRfl
import Derived.RowKit
import Derived.RowKit3
import Derived.Tactics
import Derived.Deep.QuietTactic
import Derived.BigQuiet
import Derived.OwnWalk
import Derived.Outline
import Derived.Handy
import Derived.StillTailTactics
import Derived.Deep.RegionHeld3
import Derived.Deep.DeepCutAuto
import Derived.Deep.CutBlock
import Derived.Shelf.Abstract
import Derived.Shelf.SlSortCmp.QuietGrown
import Derived.Lib.SliceRun
import Derived.Sort.OwnSortedInts
import Derived.Lib.SlicesCompact
import Derived.Lib.SmallJoins
import Derived.SliceStrings
import Derived.ArgAppend
import Derived.Deep.AppendSrc
import Derived.Deep.Upon
import Derived.Deep.Slices
import Derived.ChangeSame
import Derived.Maps.OwnSet
import Derived.Maps.Range
import Derived.Maps.OwnOps
import Derived.Lib.SlKeysI
import Derived.Maps.Views
import Derived.Test.YtmokjaelgfikeaaC7
namespace Go.Proofs.Ytmokjaelgfikeaa.K
open Go.RowKit
set_option linter.unusedSimpArgs false
set_option linter.unusedVariables false
attribute [local go_sem] bc_alloc2 bc_alloc3 s_alloc_drewN s_setCell_drewN bc_alloc bc_drewN bc_drew

set_option maxRecDepth 100000 in
set_option maxHeartbeats 4000000 in
theorem Lit31 (A : Option Addr) (n c : Nat) (L : List WaitV) (o x : Int) (p : Bool) (hp : p = true ↔ Reaches L x o) (B1 B2 : Nat) (w : World) (h : Wts w A n L) (hw : WfW L) (hs : sumF L ≤ 1000000)
    (l1 : B1 < w.heap.size) (l2 : B2 < w.heap.size) (h1 : w.cell? ⟨B1, 0, none⟩ = some (.slice A n c)) (h2 : w.cell? ⟨B2, 0, none⟩ = some (.int .i64 o)) :
    Calls Try.prog 31 #[.int .i64 x, .pointer (some ⟨B1, 0, none⟩), .pointer (some ⟨B2, 0, none⟩)] w (Ret (.bool (!p)) w) := by
  have h0 := bc_refl w
  have q1 := bc_cell h1 l1
  have q2 := bc_cell h2 l2
  have H := hid h
  have HP := hid hp
  clear h hp h1 h2
  go_enter Try.func31, Try.ntmps31
  go_upto_region 1 with fail
  go_region_held3 (fun w' => BelowC w w') (repeat (with_reducible first | assumption | exact bc_refl _ | apply bc_alloc | apply bc_drewN | apply bc_drew)) (first | (go_at_call 26; (with_reducible refine (All A n c L x _ (H.out.below (by repeat (with_reducible first | assumption | exact bc_refl _ | apply bc_alloc | apply bc_drewN | apply bc_drew))) hw hs).mono ?_); rintro ee v1 ⟨v, xs, rfl, ho, hR, hb⟩; have HX : BelowC w v1 := bc_trans (by repeat (with_reducible first | assumption | exact bc_refl _ | apply bc_alloc | apply bc_drewN | apply bc_drew)) hb; obtain ⟨A1, n1, c1, rfl, -, -, hN, -⟩ := ownI_form ho; have HN := hid hN; have HV : BelowC v1 v1 := bc_refl _; have HD : Hid (decide (o ∈ xs) = p) := hid (by rw [Bool.eq_iff_iff, decide_eq_true_eq, hR.2, HP.out]); clear ho hR hb hN) | (go_at_call 29; (with_reducible refine (Contains o A1 n1 c1 xs _ (HN.out.below (by repeat (with_reducible first | assumption | exact bc_refl _ | apply bc_alloc | apply bc_drewN | apply bc_drew)))).mono ?_); rintro ee v2 ⟨rfl, hb⟩; rw [HD.out]; have HX2 : BelowC w v2 := bc_step (by repeat (with_reducible first | assumption | exact bc_refl _ | apply bc_alloc | apply bc_drewN | apply bc_drew)) hb; clear hb))
  all_goals
    go_wp2_with fail
    go_returns
    exact ⟨rfl, HX2⟩
/-- Has this owner an age? -/
def agedB (l : List Int) (x : Int) : Bool := decide (0 ≤ x) && (decide (x < l.length) && !(l[x.toNat]! == 0))
set_option maxHeartbeats 2000000 in
theorem Lit33 (A : Option Addr) (n c : Nat) (l : List Int) (x : Int) (B : Nat) (w : World) (h : Ns w A n l) (l1 : B < w.heap.size) (h1 : w.cell? ⟨B, 0, none⟩ = some (.slice A n c)) :
    Calls Try.prog 33 #[.int .i64 x, .pointer (some ⟨B, 0, none⟩)] w (Ret (.bool (!agedB l x)) w) := by
  have h0 := bc_refl w
  have q1 := bc_cell h1 l1
  have hnn := h.2.1
  have H := hid h
  have HL := hid h.1
  clear h h1
  by_cases hx : x < 0
  · have d1 : decide (x < 0) = true := decide_eq_true hx
    have HF : Hid ((!agedB l x) = true) := hid (by simp [agedB, show ¬ 0 ≤ x by omega])
    go_enter Try.func33, Try.ntmps33
    go_wp2_with fail
    go_returns
    exact ⟨by first | (rw [HF.out]; rfl) | rw [HF.out], h0⟩
  · have d1 : decide (x < 0) = false := decide_eq_false hx
    by_cases hl : (n : Int) ≤ x
    · have d2 : decide ((n : Int) ≤ x) = true := decide_eq_true hl
      have HF : Hid ((!agedB l x) = true) := hid (by simp [agedB, show ¬ x < (l.length : Int) by have := HL.out; omega])
      go_enter Try.func33, Try.ntmps33
      go_wp2_with fail
      go_returns
      exact ⟨by first | (rw [HF.out]; rfl) | rw [HF.out], h0⟩
    · have d2 : decide ((n : Int) ≤ x) = false := decide_eq_false hl
      obtain ⟨k, rfl⟩ : ∃ k : Nat, x = (k : Int) := ⟨x.toNat, by omega⟩
      obtain ⟨b, o, rfl, hb0, hc⟩ := H.out.2.2 (by omega)
      have hkl : k < l.length := by have := HL.out; omega
      have q2 := bc_cell (hc k hkl) hb0
      have i1 : (k : Int) < (n : Int) := by omega
      have i0 : (0 : Int) ≤ (k : Int) := by omega
      have HF : Hid ((!agedB l (k : Int)) = (l[k] == 0)) := hid (by
        rw [agedB, decide_eq_true (by omega : (0 : Int) ≤ (k : Int)), decide_eq_true (by omega : (k : Int) < l.length), show ((k : Int)).toNat = k by omega, getI hkl]
        simp)
      generalize l[k] = z at q2 HF
      clear hc hkl
      go_enter Try.func33, Try.ntmps33
      go_wp2_with fail
      go_returns
      exact ⟨by first | (rw [HF.out]; rfl) | rw [HF.out], h0⟩
/-- Ages that may be: none below 0; they fit Go's int. -/
def AgesI (l : List Int) : Prop := ∀ z ∈ l, 0 ≤ z ∧ z ≤ 9223372036854775807
def ageAt (l : List Int) (x : Int) : Int := l[x.toNat]!
set_option maxHeartbeats 2000000 in
theorem Lit35 (A : Option Addr) (n c : Nat) (l : List Int) (a b : Int) (B : Nat) (w : World) (h : Ns w A n l) (hl : AgesI l) (l1 : B < w.heap.size) (h1 : w.cell? ⟨B, 0, none⟩ = some (.slice A n c)) (ha : agedB l a = true) (hb : agedB l b = true) :
    Calls Try.prog 35 #[.int .i64 a, .int .i64 b, .pointer (some ⟨B, 0, none⟩)] w (Ret (.int .i64 (ageAt l a - ageAt l b)) w) := by
  have h0 := bc_refl w
  have hnn := h.2.1
  have H := hid h
  have HL := hid h.1
  have H1 := hid h1
  clear h h1
  simp only [agedB, Bool.and_eq_true, decide_eq_true_eq] at ha hb
  obtain ⟨i, rfl⟩ : ∃ i : Nat, a = (i : Int) := ⟨a.toNat, by omega⟩
  obtain ⟨j, rfl⟩ : ∃ j : Nat, b = (j : Int) := ⟨b.toNat, by omega⟩
  have hi : i < l.length := by omega
  have hj : j < l.length := by omega
  obtain ⟨bk, o, rfl, hb0, hc⟩ := H.out.2.2 (by have := HL.out; omega)
  have e1 : ageAt l (i : Int) = l[i] := by rw [ageAt, show ((i : Int)).toNat = i by omega, getI hi]
  have e2 : ageAt l (j : Int) = l[j] := by rw [ageAt, show ((j : Int)).toNat = j by omega, getI hj]
  have g1 := hl _ (List.getElem_mem hi)
  have g2 := hl _ (List.getElem_mem hj)
  rw [e1, e2]
  have q1 := hc i hi
  have q2 := hc j hj
  generalize l[i] = x at q1 g1 e1
  generalize l[j] = y at q2 g2 e2
  have hw : wrap64 (x - y) = x - y := by unfold wrap64; omega
  have i1 : (i : Int) < (n : Int) := by have := HL.out; omega
  have j1 : (j : Int) < (n : Int) := by have := HL.out; omega
  have i0 : (0 : Int) ≤ (i : Int) := by omega
  have j0 : (0 : Int) ≤ (j : Int) := by omega
  have q0 := H1.out
  clear hc e1 e2 ha hb hi hj
  go_enter Try.func35, Try.ntmps35
  go_wp2_with fail
  go_quiet (fail)
  go_wp2_with fail
  go_returns
  exact ⟨by first | rfl | rw [hw], bc_drewN h0 _⟩
end Go.Proofs.Ytmokjaelgfikeaa.K
