/- Round, Circle, Reach, aged, Youngest. -/
import Derived.Test.YtmokjaelgfikeaaProg
import Derived.Below
import Derived.WalkKit
import Derived.KernelRfl
import Derived.RowKit
import Derived.RowKit3
import Derived.Tactics
import Derived.Deep.QuietTactic
import Derived.BigQuiet
import Derived.OwnWalk
import Derived.Outline
import Derived.Handy
import Derived.StillTailTactics
import Derived.Deep.RegionHeld3
import Derived.Deep.DeepCutAuto
import Derived.Deep.CutBlock
import Derived.Shelf.Abstract
import Derived.Shelf.SlSortCmp.QuietGrown
import Derived.Lib.SliceRun
import Derived.Sort.OwnSortedInts
import Derived.Lib.SlicesCompact
import Derived.Lib.SmallJoins
import Derived.SliceStrings
import Derived.ArgAppend
import Derived.Deep.AppendSrc
import Derived.Deep.Upon
import Derived.Deep.Slices
import Derived.ChangeSame
import Derived.Maps.OwnSet
import Derived.Maps.Range
import Derived.Maps.OwnOps
import Derived.Lib.SlKeysI
import Derived.Maps.Views
import Derived.Test.YtmokjaelgfikeaaC8
namespace Go.Proofs.Ytmokjaelgfikeaa.K
open Go.RowKit
set_option linter.unusedSimpArgs false
set_option linter.unusedVariables false
attribute [local go_sem] bc_alloc2 bc_alloc3 s_alloc_drewN s_setCell_drewN bc_alloc bc_drewN bc_drew

/-- Just those on a circle with o, in order. -/
def IsO (L : List WaitV) (o : Int) (xs : List Int) : Prop := Strict xs ∧ ∀ z, z ∈ xs ↔ Reaches L o z ∧ Reaches L z o
open Classical in
theorem round_of {L : List WaitV} {o : Int} {xs : List Int} (h : IsR L o xs) : IsO L o (xs.filter fun x => !!decide (Reaches L x o)) := by
  refine ⟨h.1.filter _, fun z => ?_⟩
  rw [List.mem_filter, h.2]
  simp
def RetO (L : List WaitV) (o : Int) (w : World) (e : Ending) (w' : World) : Prop := ∃ v xs, e = .returned v ∧ OwnI w' w v xs ∧ IsO L o xs ∧ BelowC w w'
open Classical in
set_option maxRecDepth 100000 in
set_option maxHeartbeats 4000000 in
theorem Round (A : Option Addr) (n c : Nat) (L : List WaitV) (o : Int) (w : World) (h : Wts w A n L) (hw : WfW L) (hs : sumF L ≤ 1000000) : Calls Try.prog 21 #[.slice A n c, .int .i64 o] w (RetO L o w) := by
  have h0 := bc_refl w
  have H := hid h
  have HW := hid hw
  have HS := hid hs
  clear h hw hs
  obtain ⟨wb, hA, hAA, hsz, r0, s0⟩ : ∃ wb : World, BelowC w wb ∧ BelowC wb ((w.alloc (.cells #[.slice A n c] 27)).alloc (.cells #[.int .i64 o] 3)) ∧ w.heap.size + 2 ≤ wb.heap.size ∧ (∀ w', BelowC wb w' → w'.cell? ⟨w.heap.size, 0, none⟩ = some (.slice A n c)) ∧ (∀ w', BelowC wb w' → w'.cell? ⟨w.heap.size + 1, 0, none⟩ = some (.int .i64 o)) := ⟨_, bc_alloc2 (bc_refl _) _ _, bc_refl _, by simp, bc_cell (by go_simp) (by first | (simp; done) | (simp; omega)), bc_cell (by go_simp) (by first | (simp; done) | (simp; omega))⟩
  have HA := hid hA
  have hx : w.heap.size < wb.heap.size := by omega
  have hx2 : w.heap.size + 1 < wb.heap.size := by omega
  have HP : Hid (Pred (fun x => !decide (Reaches L x o)) 31 #[.pointer (some ⟨w.heap.size, 0, none⟩), .pointer (some ⟨w.heap.size + 1, 0, none⟩)] wb) := hid (fun x W hW => Lit31 A n c L o x (decide (Reaches L x o)) (by simp) w.heap.size (w.heap.size + 1) W (H.out.below (bc_trans hA hW)) HW.out HS.out (bc_lt hW hx) (bc_lt hW hx2) (r0 W hW) (s0 W hW))
  go_enter Try.func21, Try.ntmps21
  go_wp2_with (first | (go_at_call 26; refine (All A n c L o _ (H.out.below (bc_trans hA hAA)) HW.out HS.out).mono ?_; rintro e v1 ⟨v, xs, rfl, ho, hR, hb⟩; have HO := hid (ownI_le ho hAA); have HR := hid hR; have HX := hid (bc_trans hAA hb); clear ho hR hb) | (go_at_call 30; refine (DeleteFunc (fun x => !decide (Reaches L x o)) 31 _ (enters_of Try.func31 (by kernel_rfl) rfl) _ xs _ wb HO.out HX.out HP.out).mono ?_; rintro e v2 ⟨v', rfl, ho2, hb⟩; have HO2 := hid ho2; have HX2 := hid hb; clear ho2 hb))
  go_returns
  exact ⟨_, _, rfl, ownI_le HO2.out HA.out, round_of HR.out, bc_trans HA.out HX2.out⟩
set_option maxHeartbeats 2000000 in
theorem Circle (A : Option Addr) (n c : Nat) (L : List WaitV) (o : Int) (w : World) (h : Wts w A n L) (hm : MayW L) (hw : WfW L) (hs : sumF L ≤ 1000000) : Calls Try.prog 11 #[.slice A n c, .int .i64 o] w fun e w' => ∃ A' n' c' xs, e = .returned (.tuple #[.slice A' n' c', .int .i64 0]) ∧ OwnI w' w (.slice A' n' c') xs ∧ n' = xs.length ∧ IsO L o xs ∧ BelowC w w' := by
  have h0 := bc_refl w
  have hn6 : n ≤ 6 := by have := h.1; have := hm.2.1; omega
  have H := hid h
  have HM := hid (decide_eq_true hm)
  clear h hm
  go_enter Try.func11, Try.ntmps11
  go_wp2_with (first | (go_at_call 20; refine (May A n c L _ (H.out) (by omega)).mono ?_; rintro e v1 ⟨rfl, hb⟩; rw [HM.out]; have HX : BelowC w v1 := bc_step h0 hb; clear hb) | (go_at_call 21; refine (Round A n c L o _ (H.out.below HX) hw hs).mono ?_; rintro e v2 ⟨v, xs, rfl, ho, hO, hb⟩; obtain ⟨A2, n2, c2, rfl, hn2, -, -, -⟩ := ownI_form ho; have HN2 := hid hn2; have HO := hid (ownI_le ho HX); have HOO := hid hO; have HX2 := hid (bc_trans HX hb); clear ho hO hb hn2))
  go_returns
  exact ⟨A2, n2, c2, xs, rfl, HO.out, HN2.out, HOO.out, HX2.out⟩
set_option maxHeartbeats 2000000 in
theorem Reach (A : Option Addr) (n c : Nat) (L : List WaitV) (o : Int) (w : World) (h : Wts w A n L) (hm : MayW L) (hw : WfW L) (hs : sumF L ≤ 1000000) : Calls Try.prog 18 #[.slice A n c, .int .i64 o] w fun e w' => ∃ A' n' c' xs, e = .returned (.tuple #[.slice A' n' c', .int .i64 0]) ∧ OwnI w' w (.slice A' n' c') xs ∧ n' = xs.length ∧ IsR L o xs ∧ BelowC w w' := by
  have h0 := bc_refl w
  have hn6 : n ≤ 6 := by have := h.1; have := hm.2.1; omega
  have H := hid h
  have HM := hid (decide_eq_true hm)
  clear h hm
  go_enter Try.func18, Try.ntmps18
  go_wp2_with (first | (go_at_call 20; refine (May A n c L _ (H.out) (by omega)).mono ?_; rintro e v1 ⟨rfl, hb⟩; rw [HM.out]; have HX : BelowC w v1 := bc_step h0 hb; clear hb) | (go_at_call 26; refine (All A n c L o _ (H.out.below HX) hw hs).mono ?_; rintro e v2 ⟨v, xs, rfl, ho, hO, hb⟩; obtain ⟨A2, n2, c2, rfl, hn2, -, -, -⟩ := ownI_form ho; have HN2 := hid hn2; have HO := hid (ownI_le ho HX); have HOO := hid hO; have HX2 := hid (bc_trans HX hb); clear ho hO hb hn2))
  go_returns
  exact ⟨A2, n2, c2, xs, rfl, HO.out, HN2.out, HOO.out, HX2.out⟩
theorem all_not (l L : List Int) : (!(L.any fun x => !agedB l x)) = L.all (agedB l) := by
  rw [List.any_eq_not_all_not]
  simp
set_option maxHeartbeats 2000000 in
theorem Aged (A A' : Option Addr) (n n' c c' : Nat) (l L : List Int) (w : World) (h : Ns w A n l) (h' : Ns w A' n' L) : Calls Try.prog 23 #[.slice A n c, .slice A' n' c'] w (Ret (.bool (L.all (agedB l))) w) := by
  have H := hid h
  have H' := hid h'
  clear h h'
  obtain ⟨wb, hA, hAA, hsz, r0⟩ : ∃ wb : World, BelowC w wb ∧ BelowC wb (w.alloc (.cells #[.slice A n c] 23)) ∧ w.heap.size + 1 ≤ wb.heap.size ∧ (∀ w', BelowC wb w' → w'.cell? ⟨w.heap.size, 0, none⟩ = some (.slice A n c)) := ⟨_, bc_alloc (bc_refl _) _, bc_refl _, by simp, bc_cell (by go_simp) (by first | (simp; done) | (simp; omega))⟩
  have HA := hid hA
  have hx : w.heap.size < wb.heap.size := by omega
  have HP : Hid (Pred (fun x => !agedB l x) 33 #[.pointer (some ⟨w.heap.size, 0, none⟩)] wb) := hid (fun x W hW => Lit33 A n c l x w.heap.size W (H.out.below (bc_trans hA hW)) (bc_lt hW hx) (r0 W hW))
  rw [← all_not]
  go_enter Try.func23, Try.ntmps23
  go_wp2_with (go_at_call 32; refine (ContainsFunc (fun x => !agedB l x) 33 _ (enters_of Try.func33 (by kernel_rfl) rfl) A' n' c' L _ (H'.out.below (bc_trans hA hAA)) (fun x W hW => HP.out x W (bc_trans hAA hW))).mono ?_; rintro e v1 ⟨rfl, hb⟩; have HX := hid (bc_step hAA hb); clear hb)
  go_returns
  exact ⟨rfl, bc_trans HA.out HX.out⟩
theorem take_mem {l : List Int} {i : Nat} (hi : i < l.length) (z : Int) : z ∈ l.take (i + 1) ↔ z ∈ l.take i ∨ z = l[i] := by
  rw [List.take_add_one, List.getElem?_eq_getElem hi, Option.toList_some, List.mem_append, List.mem_singleton]
set_option maxRecDepth 100000 in
set_option maxHeartbeats 4000000 in
theorem MaxFunc (A : Option Addr) (n c : Nat) (L l : List Int) (lb : Array Value) (w : World) (h : Ns w A n L) (h0n : 0 < n) (ha : ∀ x ∈ L, agedB l x = true)
    (hp : ∀ a b W, agedB l a = true → agedB l b = true → BelowC w W → Calls Try.prog 35 (#[.int .i64 a, .int .i64 b] ++ lb) W (Ret (.int .i64 (ageAt l a - ageAt l b)) W)) :
    Calls Try.prog 34 #[.slice A n c, .func (.func 35) #[] lb] w fun e w' => ∃ m, e = .returned (.int .i64 m) ∧ m ∈ L ∧ (∀ x ∈ L, ageAt l x ≤ ageAt l m) ∧ BelowC w w' := by
  have hn := h.2.1
  have eg : ∀ args w, (callFunc 35 args).run Try.prog w = .ok (.enter 35 args) w := enters_of Try.func35 (by kernel_rfl) rfl
  have H := hid h
  have HA := hid ha
  have HP := hid hp
  have h00 := bc_refl w
  obtain ⟨b, o, rfl, hb0, hc⟩ := h.2.2 h0n
  have hl0 : 0 < L.length := by have := h.1; omega
  have q0 := bc_cell (show w.cell? ⟨b, o, none⟩ = some (.int .i64 L[0]) from hc 0 hl0) hb0
  have HI : Hid (L[0] ∈ L.take 1 ∧ ∀ x ∈ L.take 1, ageAt l x ≤ ageAt l L[0]) := hid (by
    have e : L.take 1 = [L[0]] := by rw [show (1 : Nat) = 0 + 1 from rfl, take_succ' hl0]; simp
    rw [e]
    simp)
  generalize L[0] = x0 at q0 HI
  have HC := hid hc
  clear h ha hp hc hl0
  have d1 : decide ((n : Int) < 1) = false := decide_eq_false (by omega)
  have i0 : (0 : Int) < (n : Int) := by omega
  go_enter Try.func34, Try.ntmps34
  go_wp2_with fail
  go_loopw [5, 6] (fun u v wr => ∃ (m : Int) (k : Nat), k ≤ n ∧ 0 < k ∧ u = .int .i64 m ∧ v = .int .i64 k ∧ BelowC w wr ∧ Hid (m ∈ L.take k ∧ ∀ x ∈ L.take k, ageAt l x ≤ ageAt l m)) (fun _ v _ => n - (intOf v).toNat)
  case atStart => exact ⟨x0, 1, by omega, by omega, rfl, rfl, h00, HI⟩
  case round =>
    obtain ⟨m, k, hk, hk0, rfl, rfl, HK, HM⟩ := hrel
    rename World => wK
    by_cases hlt : k < n
    · have hkl : k < L.length := by have := H.out.1; omega
      have hx := bc_cell (HC.out k hkl) hb0
      have HS := hid (fun z => take_mem hkl z)
      have HXL := hid (HA.out _ (List.getElem_mem hkl))
      generalize L[k] = x at hx HS HXL
      have HML := hid (HA.out m (List.mem_of_mem_take HM.out.1))
      have hcall := HP.out x m wK HXL.out HML.out HK
      have i1 : (k : Int) < (n : Int) := by omega
      by_cases hg : 0 < ageAt l x - ageAt l m
      · have d2 : decide (0 < ageAt l x - ageAt l m) = true := decide_eq_true hg
        have HG := hid hg
        go_wp2_with (go_at_fn 35; refine hcall.mono ?_; rintro e v1 ⟨rfl, hb⟩; have HX : BelowC w v1 := bc_step HK hb; clear hb)
        go_roundw
        case rel => exact ⟨x, k + 1, by omega, by omega, rfl, by go_num, HX, hid ⟨(HS.out x).2 (.inr rfl), fun z hz => by
          rcases (HS.out z).1 hz with h1 | h1
          · have := HM.out.2 z h1; have := HG.out; omega
          · rw [h1]; omega⟩⟩
        case measure => simp [intOf]; omega
      · have d2 : decide (0 < ageAt l x - ageAt l m) = false := decide_eq_false hg
        have HG := hid hg
        go_wp2_with (go_at_fn 35; refine hcall.mono ?_; rintro e v1 ⟨rfl, hb⟩; have HX : BelowC w v1 := bc_step HK hb; clear hb)
        go_roundw
        case rel => exact ⟨m, k + 1, by omega, by omega, rfl, by go_num, HX, hid ⟨(HS.out m).2 (.inl HM.out.1), fun z hz => by
          rcases (HS.out z).1 hz with h1 | h1
          · exact HM.out.2 z h1
          · rw [h1]; have := HG.out; omega⟩⟩
        case measure => simp [intOf]; omega
    · have e : L.take k = L := List.take_of_length_le (by have := H.out.1; omega)
      have HE : Hid (m ∈ L ∧ ∀ x ∈ L, ageAt l x ≤ ageAt l m) := hid (by have := HM.out; rw [e] at this; exact this)
      clear e
      go_wp2_with fail
      go_returns
      exact ⟨m, rfl, HE.out.1, HE.out.2, HK⟩
set_option maxHeartbeats 2000000 in
theorem Youngest (A A' : Option Addr) (n n' c c' : Nat) (l L : List Int) (w : World) (h : Ns w A n l) (hl : AgesI l) (h' : Ns w A' n' L) (h0n : 0 < n') (ha : ∀ x ∈ L, agedB l x = true) : Calls Try.prog 24 #[.slice A n c, .slice A' n' c'] w fun e w' => ∃ m, e = .returned (.int .i64 m) ∧ m ∈ L ∧ (∀ x ∈ L, ageAt l x ≤ ageAt l m) ∧ BelowC w w' := by
  have H := hid h
  have H' := hid h'
  have HAA := hid ha
  clear h h' ha
  obtain ⟨wb, hA, hAA, hsz, r0⟩ : ∃ wb : World, BelowC w wb ∧ BelowC wb (w.alloc (.cells #[.slice A n c] 23)) ∧ w.heap.size + 1 ≤ wb.heap.size ∧ (∀ w', BelowC wb w' → w'.cell? ⟨w.heap.size, 0, none⟩ = some (.slice A n c)) := ⟨_, bc_alloc (bc_refl _) _, bc_refl _, by simp, bc_cell (by go_simp) (by first | (simp; done) | (simp; omega))⟩
  have HA := hid hA
  have hx : w.heap.size < wb.heap.size := by omega
  have HP : Hid (∀ a b W, agedB l a = true → agedB l b = true → BelowC wb W → Calls Try.prog 35 (#[.int .i64 a, .int .i64 b] ++ #[.pointer (some ⟨w.heap.size, 0, none⟩)]) W (Ret (.int .i64 (ageAt l a - ageAt l b)) W)) := hid (fun a b W h1 h2 hW => Lit35 A n c l a b w.heap.size W (H.out.below (bc_trans hA hW)) hl (bc_lt hW hx) (r0 W hW) h1 h2)
  go_enter Try.func24, Try.ntmps24
  go_wp2_with (go_at_call 34; refine (MaxFunc A' n' c' L l _ _ (H'.out.below (bc_trans hA hAA)) h0n HAA.out (fun a b W h1 h2 hW => HP.out a b W h1 h2 (bc_trans hAA hW))).mono ?_; rintro e v1 ⟨m, rfl, hm1, hm2, hb⟩; have HX := hid (bc_trans hAA hb); have HM1 := hid hm1; have HM2 := hid hm2; clear hb hm1 hm2)
  go_returns
  exact ⟨m, rfl, HM1.out, HM2.out, bc_trans HA.out HX.out⟩
end Go.Proofs.Ytmokjaelgfikeaa.K
