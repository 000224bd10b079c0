/- unlike, Victim. -/
import Derived.Test.YtmokjaelgfikeaaProg
import Derived.Below
import Derived.WalkKit
import Derived.KernelRfl
import Derived.RowKit
import Derived.RowKit3
import Derived.Tactics
import Derived.Deep.QuietTactic
import Derived.BigQuiet
import Derived.OwnWalk
import Derived.Outline
import Derived.Handy
import Derived.StillTailTactics
import Derived.Deep.RegionHeld3
import Derived.Deep.DeepCutAuto
import Derived.Deep.CutBlock
import Derived.Shelf.Abstract
import Derived.Shelf.SlSortCmp.QuietGrown
import Derived.Lib.SliceRun
import Derived.Sort.OwnSortedInts
import Derived.Lib.SlicesCompact
import Derived.Lib.SmallJoins
import Derived.SliceStrings
import Derived.ArgAppend
import Derived.Deep.AppendSrc
import Derived.Deep.Upon
import Derived.Deep.Slices
import Derived.ChangeSame
import Derived.Maps.OwnSet
import Derived.Maps.Range
import Derived.Maps.OwnOps
import Derived.Lib.SlKeysI
import Derived.Maps.Views
import Derived.Test.YtmokjaelgfikeaaC9
namespace Go.Proofs.Ytmokjaelgfikeaa.K
open Go.RowKit
set_option linter.unusedSimpArgs false
set_option linter.unusedVariables false
attribute [local go_sem] bc_alloc2 bc_alloc3 s_alloc_drewN s_setCell_drewN bc_alloc bc_drewN bc_drew

/-- No age but 0 twice; none below 0. -/
def UnlikeP (l : List Int) : Prop := (∀ z ∈ l, 0 ≤ z) ∧ l.Pairwise (fun a b => 0 < b → a ≠ b)
theorem unlike_new {l : List Int} (h : UnlikeP l) {k : Nat} (hk : k < l.length) (h0 : 0 < l[k]) : l[k] ∉ l.take k := by
  intro hm
  obtain ⟨j, hj, e⟩ := List.mem_iff_getElem.1 hm
  rw [List.length_take] at hj
  rw [List.getElem_take] at e
  exact List.pairwise_iff_getElem.1 h.2 j k (by omega) hk (by omega) h0 e
set_option maxRecDepth 100000 in
set_option maxHeartbeats 4000000 in
theorem Unlike (A : Option Addr) (n c : Nat) (l : List Int) (w : World) (h : Ns w A n l) (hu : UnlikeP l) (hl : ∀ z ∈ l, wfI z = true) (hbig : n ≤ 1000000) : Calls Try.prog 22 #[.slice A n c] w (Ret (.bool true) w) := by
  have hmm := @run_makeMap Try.prog
  have hn := h.2.1
  have H := hid h
  have HU := hid hu
  have HW := hid hl
  clear h hu hl
  go_enter Try.func22, Try.ntmps22
  go_wp2_with fail
  go_loopw [5, 9] (fun _ v wr => ∃ k : Nat, k ≤ n ∧ v = .int .i64 k ∧ BelowC w wr ∧ Hid (SetM wr w.heap.size k (l.take k))) (fun _ v _ => n - (intOf v).toNat)
  case atStart => exact ⟨0, by omega, rfl, bc_alloc (bc_refl w) _, hid (by rw [List.take_zero]; exact setM_made w)⟩
  case round =>
    obtain ⟨k, hk, rfl, HK, HS⟩ := hrel
    rename World => wK
    by_cases hlt : k < n
    · obtain ⟨b, o, rfl, hb0, hc⟩ := H.out.2.2 (by omega)
      have hkl : k < l.length := by have := H.out.1; omega
      have hx := bc_cell (hc k hkl) hb0 _ HK
      have HN := hid (fun h => unlike_new HU.out hkl h)
      have hz0 := HU.out.1 _ (List.getElem_mem hkl)
      have HWz := hid (HW.out _ (List.getElem_mem hkl))
      have HT := hid (take_succ' hkl)
      generalize l[k] = z at hx HN hz0 HWz HT
      have i1 : (k : Int) < (n : Int) := by omega
      have dz : decide (z < 0) = false := decide_eq_false (by omega)
      clear hc hkl
      by_cases h0 : 0 < z
      · have d0 : decide (0 < z) = true := decide_eq_true h0
        have hlook : (Instr.lookup 55 (.map (some w.heap.size)) (.int .i64 z) false).run Try.prog wK = .ok (.bool false) wK := by
          have := HS.out.look HWz.out
          rw [decide_eq_false (HN.out h0)] at this
          exact this
        go_wp2_with (at_mapUpdate; refine store55 _ rfl (.tmp 24) (.tmp 25) _ rfl w.heap.size k (l.take k) z rfl HS.out (by unfold maxLen; omega) rfl rfl HWz.out ?_; intro w1 hS1 hg1; have HS1 := hid hS1; have HK1 : BelowC w w1 := bc_grown HK hg1 (fun k hk => by cases hk; exact Nat.le_refl _); clear hS1 hg1)
        go_roundw
        case rel => exact ⟨k + 1, by omega, by go_num, HK1, hid (by rw [HT.out]; exact HS1.out)⟩
        case measure => simp [intOf]; omega
      · have d0 : decide (0 < z) = false := decide_eq_false h0
        go_wp2_with (at_mapUpdate; refine store55 _ rfl (.tmp 24) (.tmp 25) _ rfl w.heap.size k (l.take k) z rfl HS.out (by unfold maxLen; omega) rfl rfl HWz.out ?_; intro w1 hS1 hg1; have HS1 := hid hS1; have HK1 : BelowC w w1 := bc_grown HK hg1 (fun k hk => by cases hk; exact Nat.le_refl _); clear hS1 hg1)
        go_roundw
        case rel => exact ⟨k + 1, by omega, by go_num, HK1, hid (by rw [HT.out]; exact HS1.out)⟩
        case measure => simp [intOf]; omega
    · go_wp2_with fail
      go_returns
      exact ⟨rfl, HK⟩
theorem one_ns (w : World) (z : Int) : Ns (w.alloc (.cells #[.int .i64 z] 3)) (some ⟨w.heap.size, 0, none⟩) 1 [z] :=
  ⟨rfl, by decide, fun _ => ⟨_, 0, rfl, by simp, fun i hi => by
    obtain rfl : i = 0 := by simpa using hi
    simp⟩⟩
theorem one_ns2 (w : World) (z : Int) (g : Nat) (hg : g = w.heap.size) : Ns (w.alloc (.cells #[.int .i64 z] 3)) (some ⟨g, 0, none⟩) 1 [z] := by
  rw [hg]
  exact one_ns w z
/-- What the victim is. -/
def VicP (L : List WaitV) (l : List Int) (o m E : Int) : Prop := ∃ xs, IsO L o xs ∧ ((xs = [] ∧ m = 0 ∧ E = 3) ∨ (m ∈ xs ∧ (∀ x ∈ xs, ageAt l x ≤ ageAt l m) ∧ E = 0))
/-- Whoever waits or is waited for has an age. -/
def AgedW (l : List Int) (L : List WaitV) : Prop := ∀ x ∈ L, agedB l x.o = true ∧ ∀ z ∈ x.f, agedB l z = true
theorem reach_in {L : List WaitV} {o z : Int} (h : Reaches L o z) : ∃ x ∈ L, z ∈ x.f :=
  h (fun z => ∃ x ∈ L, z ∈ x.f) (fun y hy => whom_in hy) (fun y _ x hx => whom_in hx)
theorem wf_nonneg {z : Int} (h : wfI z = true) (h0 : 0 ≤ z) : z ≤ 9223372036854775807 := by
  simp [wfI, Lit.wf] at h
  omega
set_option maxRecDepth 100000 in
set_option maxHeartbeats 8000000 in
theorem Victim (A A' : Option Addr) (n n' c c' : Nat) (L : List WaitV) (l : List Int) (o : Int) (w : World) (h : Wts w A n L) (h' : Ns w A' n' l) (hm : MayW L) (hw : WfW L) (hs : sumF L ≤ 1000000) (hu : UnlikeP l) (hl : ∀ z ∈ l, wfI z = true) (hbig : n' ≤ 1000000) (ha : AgedW l L) : Calls Try.prog 12 #[.slice A n c, .slice A' n' c', .int .i64 o] w fun e w' => ∃ m E, e = .returned (.tuple #[.int .i64 m, .int .i64 E]) ∧ VicP L l o m E ∧ BelowC w w' := by
  have h0 := bc_refl w
  have hn := h.2.1
  have hn6 : n ≤ 6 := by have := h.1; have := hm.2.1; omega
  have H := hid h
  have H' := hid h'
  have HM := hid (decide_eq_true hm)
  have HU := hid hu
  have HLw := hid hl
  have HAG := hid ha
  have HAI : Hid (AgesI l) := hid (fun z hz => ⟨hu.1 z hz, wf_nonneg (hl z hz) (hu.1 z hz)⟩)
  clear h h' hm hu hl ha
  go_enter Try.func12, Try.ntmps12
  go_wp2_with (first | (go_at_call 20; refine (May A n c L _ H.out (by omega)).mono ?_; rintro e v1 ⟨rfl, hb⟩; rw [HM.out]; have HX : BelowC w v1 := bc_step h0 hb; clear hb) | (go_at_call 22; refine (Unlike A' n' c' l _ (H'.out.below HX) HU.out HLw.out hbig).mono ?_; rintro e v2 ⟨rfl, hb⟩; have HX2 : BelowC w v2 := bc_step HX hb; clear hb))
  go_loopw [9, 21] (fun _ v wr => ∃ k : Nat, k ≤ n ∧ v = .int .i64 k ∧ BelowC w wr) (fun _ v _ => n - (intOf v).toNat)
  case atStart => exact ⟨0, by omega, rfl, HX2⟩
  case round =>
    clear HX HX2
    obtain ⟨k, hk, rfl, HK⟩ := hrel
    rename World => wK
    by_cases hlt : k < n
    · obtain ⟨b, o1, rfl, hb0, hc⟩ := H.out.2.2 (by omega)
      have hkl : k < L.length := by have := H.out.1; omega
      have hx := (hc k hkl).below HK hb0
      have hag := HAG.out _ (List.getElem_mem hkl)
      generalize L[k] = x at hx hag
      have q0 := hx.c0
      have q1 := hx.c1
      have HN := hid hx.ns
      have HG1 : Hid ([x.o].all (agedB l) = true) := hid (by simp [hag.1])
      have HG2 : Hid (x.f.all (agedB l) = true) := hid (List.all_eq_true.2 hag.2)
      have i1 : (k : Int) < (n : Int) := by omega
      clear hx hc hkl hag
      obtain ⟨wx, hBx, hXX, hsx, r0, r1⟩ : ∃ wb : World, BelowC wK wb ∧ BelowC wb (wK.alloc (.cells #[.int .i64 x.o, .slice x.A x.n x.c] 41)) ∧ wK.heap.size + 1 ≤ wb.heap.size ∧ (∀ w', BelowC wb w' → w'.cell? ⟨wK.heap.size, 0, none⟩ = some (.int .i64 x.o)) ∧ (∀ w', BelowC wb w' → w'.cell? ⟨wK.heap.size, 1, none⟩ = some (.slice x.A x.n x.c)) := ⟨_, bc_alloc (bc_refl _) _, bc_refl _, by simp, bc_cell (by go_simp) (by first | (simp; done) | (simp; omega)), bc_cell (by go_simp) (by first | (simp; done) | (simp; omega))⟩
      have HBx := hid hBx
      go_wp2_with (first | (go_at_call 23; (fail_if_success have := HT1); refine (Aged A' (some ⟨wK.heap.size + 1, 0, none⟩) n' 1 c' 1 l [x.o] ((wK.alloc (.cells #[.int .i64 x.o, .slice x.A x.n x.c] 41)).alloc (.cells #[.int .i64 x.o] 3)) (H'.out.below (bc_trans HK (bc_trans HBx.out (by repeat (with_reducible first | assumption | exact bc_refl _ | apply bc_alloc | apply bc_drewN | apply bc_drew))))) (one_ns2 (wK.alloc (.cells #[.int .i64 x.o, .slice x.A x.n x.c] 41)) x.o (wK.heap.size + 1) (by simp))).mono ?_; rintro e v3 ⟨rfl, hb⟩; rw [HG1.out]; have HT1 := hid True.intro; have HX3 : BelowC wx v3 := bc_step (by repeat (with_reducible first | assumption | exact bc_refl _ | apply bc_alloc | apply bc_drewN | apply bc_drew)) hb; clear hb) | (go_at_call 23; refine (Aged A' x.A n' x.n c' x.c l x.f _ (H'.out.below (bc_trans HK (bc_trans HBx.out (by repeat (with_reducible first | assumption | exact bc_refl _ | apply bc_alloc | apply bc_drewN | apply bc_drew))))) (HN.out.below (bc_trans HBx.out (by repeat (with_reducible first | assumption | exact bc_refl _ | apply bc_alloc | apply bc_drewN | apply bc_drew))))).mono ?_; rintro e v4 ⟨rfl, hb⟩; rw [HG2.out]; have HX4 : BelowC wx v4 := bc_step (by repeat (with_reducible first | assumption | exact bc_refl _ | apply bc_alloc | apply bc_drewN | apply bc_drew)) hb; clear hb))
      go_roundw
      case rel => exact ⟨k + 1, by omega, by go_num, bc_trans HK (bc_trans HBx.out HX4)⟩
      case measure => simp [intOf]; omega
    · go_upto_region 10 with (go_at_call 21; refine (Round A n c L o _ (H.out.below HK) hw hs).mono ?_; rintro e v3 ⟨v, xs, rfl, ho, hO, hb⟩; obtain ⟨A2, n2, c2, rfl, hn2, -, hL2, -⟩ := ownI_form ho; have HN2 := hid hn2; have HL2 := hid hL2; have HOO := hid hO; have HX3 : BelowC w v3 := bc_trans HK hb; clear ho hO hb hn2 hL2)
      cases n2 with
      | zero =>
        have HE : Hid (xs = []) := hid (List.eq_nil_of_length_eq_zero HN2.out.symm)
        go_wp2_with fail
        go_returns
        exact ⟨0, 3, rfl, ⟨xs, HOO.out, .inl ⟨HE.out, rfl, rfl⟩⟩, HX3⟩
      | succ n2 =>
        have dn : (((n2 + 1 : Nat) : Int) == 0) = false := by simp; omega
        have HXA : Hid (∀ x ∈ xs, agedB l x = true) := hid (fun x hx => by
          obtain ⟨y, hy, hxy⟩ := reach_in ((HOO.out.2 x).1 hx).1
          exact (HAG.out y hy).2 x hxy)
        go_wp2_with (go_at_call 24; refine (Youngest A' A2 n' (n2 + 1) c' c2 l xs _ (H'.out.below HX3) HAI.out HL2.out (by omega) HXA.out).mono ?_; rintro e v4 ⟨m, rfl, hm1, hm2, hb⟩; have HM1 := hid hm1; have HM2 := hid hm2; have HX4 : BelowC w v4 := bc_trans HX3 hb; clear hm1 hm2 hb)
        go_returns
        exact ⟨m, 0, rfl, ⟨xs, HOO.out, .inr ⟨HM1.out, HM2.out, rfl⟩⟩, HX4⟩
end Go.Proofs.Ytmokjaelgfikeaa.K
