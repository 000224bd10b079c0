/- wait.all. -/
import Derived.Test.YtmokjaelgfikeaaProg
import Derived.Below
import Derived.WalkKit
import Derived.KernelRfl
import Derived.RowKit
import Derived.RowKit3
import Derived.Tactics
import Derived.Deep.QuietTactic
import Derived.BigQuiet
import Derived.OwnWalk
import Derived.Outline
import Derived.Handy
import Derived.StillTailTactics
import Derived.Deep.RegionHeld3
import Derived.Deep.DeepCutAuto
import Derived.Deep.CutBlock
import Derived.Shelf.Abstract
import Derived.Shelf.SlSortCmp.QuietGrown
import Derived.Lib.SliceRun
import Derived.Sort.OwnSortedInts
import Derived.Lib.SlicesCompact
import Derived.Lib.SmallJoins
import Derived.SliceStrings
import Derived.ArgAppend
import Derived.Deep.AppendSrc
import Derived.Deep.Upon
import Derived.Deep.Slices
import Derived.ChangeSame
import Derived.Maps.OwnSet
import Derived.Maps.Range
import Derived.Maps.OwnOps
import Derived.Lib.SlKeysI
import Derived.Maps.Views
import Derived.Test.YtmokjaelgfikeaaC6
namespace Go.Proofs.Ytmokjaelgfikeaa.K
open Go.RowKit
set_option linter.unusedSimpArgs false
set_option linter.unusedVariables false
attribute [local go_sem] bc_alloc2 bc_alloc3 s_alloc_drewN s_setCell_drewN bc_alloc bc_drewN bc_drew

/-- o waits for z, at once or by others. -/
def Reaches (L : List WaitV) (o z : Int) : Prop := ∀ P : Int → Prop, (∀ y ∈ whomL L o, P y) → (∀ y, P y → ∀ x ∈ whomL L y, P x) → P z
theorem reach_here {L : List WaitV} {o z : Int} (h : z ∈ whomL L o) : Reaches L o z := fun P h1 _ => h1 z h
theorem reach_more {L : List WaitV} {o y z : Int} (h : Reaches L o y) (hz : z ∈ whomL L y) : Reaches L o z := fun P h1 h2 => h2 y (h P h1 h2) z hz
theorem whom_in {L : List WaitV} {y z : Int} (h : z ∈ whomL L y) : ∃ x ∈ L, z ∈ x.f := by
  unfold whomL at h
  split at h
  · rename_i x hx
    exact ⟨x, List.mem_of_find?_eq_some hx, h⟩
  · cases h
def WfW (L : List WaitV) : Prop := ∀ x ∈ L, ∀ z ∈ x.f, wfI z = true
theorem wf_whom {L : List WaitV} (h : WfW L) {y z : Int} (hz : z ∈ whomL L y) : wfI z = true := by
  obtain ⟨x, hx, hzx⟩ := whom_in hz
  exact h x hx z hzx
/-- How many numbers stand with those that are not in S. -/
def remW : List WaitV → List Int → Nat
  | [], _ => 0
  | x :: T, S => (if x.o ∈ S then 0 else x.f.length) + remW T S
theorem rem_mono : ∀ (L : List WaitV) (S : List Int) (x : Int), remW L (S ++ [x]) ≤ remW L S
  | [], _, _ => Nat.le_refl _
  | w :: T, S, x => by
    have := rem_mono T S x
    simp only [remW]
    by_cases h : w.o ∈ S
    · rw [if_pos h, if_pos (List.mem_append_left _ h)]; omega
    · rw [if_neg h]
      split <;> omega
theorem rem_step : ∀ (L : List WaitV) (S : List Int) (x : Int), x ∉ S → remW L (S ++ [x]) + (whomL L x).length ≤ remW L S
  | [], _, _, _ => by simp [remW, whomL]
  | w :: T, S, x, hx => by
    simp only [remW]
    by_cases e : w.o = x
    · have h1 : whomL (w :: T) x = w.f := by simp [whomL, e]
      have := rem_mono T S x
      rw [h1, if_pos (by simp [e]), if_neg (by rw [e]; exact hx)]
      omega
    · have h1 : whomL (w :: T) x = whomL T x := by simp [whomL, e]
      have := rem_step T S x hx
      rw [h1]
      by_cases h : w.o ∈ S
      · rw [if_pos h, if_pos (List.mem_append_left _ h)]; omega
      · rw [if_neg h, if_neg (by simp [h, e])]; omega
theorem rem_whom (L : List WaitV) (x : Int) : (whomL L x).length ≤ remW L [] := by
  have := rem_step L [] x (by simp)
  omega
theorem todo_le {w b b' : World} {A : Option Addr} {n c : Nat} {xs : List Int} (h : Todo w b A n c xs) (hb : b'.heap.size ≤ b.heap.size) : Todo w b' A n c xs := by
  refine ⟨h.len, h.le, h.max, fun h0 => ?_⟩
  obtain ⟨g, off, e, h1, h2, h3⟩ := h.row h0
  exact ⟨g, off, e, by omega, h2, h3⟩
theorem bc_low {b W w1 : World} {B : Nat} (h : BelowC b W) (hB : b.heap.size ≤ B) (hb : Below B W w1) : BelowC b w1 :=
  ⟨hb.os.trans h.os, hb.tape.trans h.tape, hb.output.trans h.output, Nat.le_trans h.size hb.size, fun k hk => (hb.block k (by omega)).trans (h.block k hk)⟩
/-- How many numbers stand in all. -/
def sumF (L : List WaitV) : Nat := remW L []
structure Inv (L : List WaitV) (o : Int) (S xs : List Int) : Prop where
  s : ∀ z ∈ S, Reaches L o z
  x : ∀ z ∈ xs, Reaches L o z ∧ wfI z = true
  o : ∀ z ∈ whomL L o, z ∈ S ∨ z ∈ xs
  c : ∀ y ∈ S, ∀ z ∈ whomL L y, z ∈ S ∨ z ∈ xs
theorem inv_start {L : List WaitV} (hw : WfW L) (o : Int) : Inv L o [] (whomL L o) :=
  ⟨by simp, fun z hz => ⟨reach_here hz, wf_whom hw hz⟩, fun z hz => .inr hz, by simp⟩
theorem inv_old {L : List WaitV} {o x : Int} {S T : List Int} (h : Inv L o S (x :: T)) (hx : x ∈ S) : Inv L o S T := by
  refine ⟨h.s, fun z hz => h.x z (List.mem_cons_of_mem _ hz), fun z hz => ?_, fun y hy z hz => ?_⟩
  · rcases h.o z hz with h1 | h1
    · exact .inl h1
    · rcases List.mem_cons.1 h1 with e | h2
      · rw [e]; exact .inl hx
      · exact .inr h2
  · rcases h.c y hy z hz with h1 | h1
    · exact .inl h1
    · rcases List.mem_cons.1 h1 with e | h2
      · rw [e]; exact .inl hx
      · exact .inr h2
theorem inv_new {L : List WaitV} {o x : Int} {S T : List Int} (hw : WfW L) (h : Inv L o S (x :: T)) : Inv L o (S ++ [x]) (T ++ whomL L x) := by
  have hx := (h.x x List.mem_cons_self).1
  have mv : ∀ z, (z ∈ S ∨ z ∈ x :: T) → z ∈ S ++ [x] ∨ z ∈ T ++ whomL L x := fun z hz => by
    simp only [List.mem_append, List.mem_cons, List.mem_singleton] at hz ⊢
    rcases hz with h1 | h1 | h1
    · exact .inl (.inl h1)
    · exact .inl (.inr (.inl h1))
    · exact .inr (.inl h1)
  refine ⟨fun z hz => ?_, fun z hz => ?_, fun z hz => mv z (h.o z hz), fun y hy z hz => ?_⟩
  · rcases List.mem_append.1 hz with h1 | h1
    · exact h.s z h1
    · rw [List.mem_singleton.1 h1]; exact hx
  · rcases List.mem_append.1 hz with h1 | h1
    · exact h.x z (List.mem_cons_of_mem _ h1)
    · exact ⟨reach_more hx h1, wf_whom hw h1⟩
  · rcases List.mem_append.1 hy with h1 | h1
    · exact mv z (h.c y h1 z hz)
    · rw [List.mem_singleton.1 h1] at hz
      exact .inr (List.mem_append_right _ hz)
/-- Just those for whom o waits, in order. -/
def IsR (L : List WaitV) (o : Int) (xs : List Int) : Prop := Strict xs ∧ ∀ z, z ∈ xs ↔ Reaches L o z
theorem inv_end {L : List WaitV} {o : Int} {S : List Int} (h : Inv L o S []) : IsR L o (ordL S) := by
  refine ⟨ord_strict S, fun z => ?_⟩
  rw [mem_ord]
  refine ⟨h.s z, fun hz => hz (fun z => z ∈ S) (fun y hy => ?_) (fun y hy x hx => ?_)⟩
  · rcases h.o y hy with h1 | h1
    · exact h1
    · cases h1
  · rcases h.c y hy x hx with h1 | h1
    · exact h1
    · cases h1
def RetR (L : List WaitV) (o : Int) (w : World) (e : Ending) (w' : World) : Prop := ∃ v xs, e = .returned v ∧ OwnI w' w v xs ∧ IsR L o xs ∧ BelowC w w'
set_option maxRecDepth 100000 in
set_option maxHeartbeats 8000000 in
theorem All (A : Option Addr) (n c : Nat) (L : List WaitV) (o : Int) (w : World) (h : Wts w A n L) (hw : WfW L) (hs : sumF L ≤ 1000000) : Calls Try.prog 26 #[.slice A n c, .int .i64 o] w (RetR L o w) := by
  have hmm := @run_makeMap Try.prog
  have H := hid h
  have HW := hid hw
  have HS := hid hs
  clear h hw hs
  have h0 := bc_refl w
  obtain ⟨wm, hM, hMM, hsz, HMM⟩ : ∃ wm : World, BelowC w wm ∧ BelowC wm (w.alloc (.map #[] 0)) ∧ wm.heap.size = w.heap.size + 1 ∧ Hid (SetM (w.alloc (.map #[] 0)) w.heap.size 0 []) := ⟨_, bc_alloc (bc_refl _) _, bc_refl _, by simp, hid (setM_made w)⟩
  have HM := hid hM
  go_enter Try.func26, Try.ntmps26
  go_wp2_with (first | (go_at_call 37; refine (ForWhom A n c L o _ (H.out.below (bc_trans hM hMM))).mono ?_; rintro e v1 ⟨A1, n1, c1, rfl, hN1, hb⟩; have HN1 := hid hN1; have hX1 : BelowC wm v1 := bc_trans hMM hb; have HS1 := hid (HMM.out.below hb); clear hN1 hb) | (go_at_call 36; refine (Clone A1 n1 c1 _ _ HN1.out (by have h1 := HN1.out.1; have h2 := rem_whom L o; have h3 := HS.out; unfold sumF at h3; omega)).mono ?_; rintro e v2 ⟨v, rfl, ho, hb⟩; obtain ⟨A2, n2, c2, rfl, hT⟩ := todo_own ho; have HT := hid hT; have hX2 : BelowC wm v2 := bc_trans hX1 hb; have HS2 := hid (HS1.out.below hb); clear ho hT hb))
  have HX2 := hid hX2
  have hz1 : wm.heap.size ≤ v1.heap.size := bc_size hX1
  have hz2 : wm.heap.size ≤ v2.heap.size := bc_size hX2
  have HSZ := hid hsz
  clear hX1 hX2
  go_loopg [6, 7] ((whomL L o).length + remW L []) (fun g y6 _ wr => ∃ (S : List Int) (A n c : _) (xs : List Int), y6 = .slice A n c ∧ Hid (Todo wr wm A n c xs) ∧ Hid (SetM wr w.heap.size S.length S) ∧ Hid (Inv L o S xs) ∧ Hid (g = xs.length + remW L S ∧ S.length + g ≤ 2000000) ∧ BelowC w wr ∧ wm.heap.size ≤ wr.heap.size)
  case atStart => exact ⟨[], A2, n2, c2, whomL L o, rfl, hid (todo_le HT.out hz1), hid HS2.out, hid (inv_start HW.out o), hid ⟨rfl, by have h1 := rem_whom L o; have h2 := HS.out; unfold sumF at h2; simp; omega⟩, bc_trans HM.out HX2.out, hz2⟩
  case round =>
    obtain ⟨S, At, nt, ct, xs, rfl, HTk, HSk, HIk, HGk, HK, hzk⟩ := hrel
    have HZk := hid hzk
    rename World => wK
    have hnt := HTk.out.len
    cases xs with
    | nil =>
      have hn0 : nt = 0 := hnt
      subst hn0
      have HE := hid (inv_end HIk.out)
      clear hnt
      go_wp2_with (first | (go_at_call 39; refine (Keys39 (some w.heap.size) _).mono ?_; rintro e w1 ⟨rfl, rfl⟩) | (go_at_call 38; refine (Sorted38 w.heap.size S.length S wK HSk.out (by have := HGk.out.2; omega)).mono ?_; rintro e v3 ⟨v, rfl, ho3, hb⟩; have HO3 := hid ho3; have HX3 := hid hb; clear ho3 hb))
      go_returns
      exact ⟨v, _, rfl, ownI_le HO3.out (bc_alloc HK _), HE.out, bc_trans (bc_alloc HK _) HX3.out⟩
    | cons x T =>
      have hn1 : 0 < nt := by rw [hnt]; simp
      have hle := HTk.out.le
      obtain ⟨g, off, rfl, hbg, hgl, hcs, _, _⟩ := HTk.out.row (by omega)
      have hx : wK.cell? ⟨g, off, none⟩ = some (.int .i64 x) := hcs 0 (by simp)
      have HXW := hid (HIk.out.x x List.mem_cons_self).2
      have hnT : nt = T.length + 1 := by rw [hnt]; rfl
      have HNT := hid hnT
      have d0 : decide ((0 : Int) < (nt : Int)) = true := decide_eq_true (by omega)
      have i0 : (0 : Int) < (nt : Int) := by omega
      have HTT := hid (fun A' h => todo_tail HTk.out A' h)
      clear hcs hnT hnt
      by_cases hc1 : ct = 1
      · subst hc1
        obtain rfl : nt = 1 := by omega
        rcases (show decide (x ∈ S) = true ∨ decide (x ∈ S) = false by cases decide (x ∈ S) <;> simp) with hm | hm
        · have HMm := hid (of_decide_eq_true hm)
          go_wp2_with (at_lookup; refine look55 _ rfl (.tmp 21) (.tmp 22) rfl w.heap.size S.length S x rfl HSk.out rfl HXW.out ?_; rw [hm])
          go_roundg (T.length + remW L S)
          case measure => have := HGk.out.1; simp only [List.length_cons] at this; omega
          case rel => exact ⟨S, _, _, _, T, rfl, hid (HTT.out (some ⟨g, off, none⟩) (fun h => absurd h (by omega))), HSk, hid (inv_old HIk.out HMm.out), hid ⟨rfl, by have h1 := HGk.out.1; have h2 := HGk.out.2; simp only [List.length_cons] at h1; omega⟩, HK, HZk.out⟩
        · have HMm := hid (of_decide_eq_false hm)
          go_wp2_with (first | (at_lookup; refine look55 _ rfl (.tmp 21) (.tmp 22) rfl w.heap.size S.length S x rfl HSk.out rfl HXW.out ?_; rw [hm]) | (at_mapUpdate; refine store55 _ rfl (.tmp 24) (.tmp 25) _ rfl w.heap.size S.length S x rfl HSk.out (by have := HGk.out.2; unfold maxLen; omega) rfl rfl HXW.out ?_; intro w1 hS1 hg1; have HS1 := hid hS1; have HG1 := hid hg1; have HK1 : BelowC w w1 := bc_grown HK hg1 (fun k hk => by cases hk; exact Nat.le_refl _); clear hS1 hg1) | (go_at_call 37; refine (ForWhom A n c L x _ (H.out.below HK1)).mono ?_; rintro e v3 ⟨A3, n3, c3, rfl, hN3, hb⟩; have HN3 := hid hN3; have HX3 := hid hb; clear hN3 hb) | (at_builtin; (fail_if_success have := hcs); refine pause ?_))
          unfold Pause
          refine appT (b0 := wm) rfl (.tmp 26) (.tmp 29) rfl (some ⟨g, off, none⟩) 0 0 T rfl (todo_below (todo_kept (HTT.out (some ⟨g, off, none⟩) (fun h => absurd h (by omega))) HG1.out (by have := HSZ.out; omega)) HX3.out) A3 n3 c3 (whomL L x) rfl HN3.out (by have h1 := HN3.out.1; have h2 := rem_whom L x; have h3 := HS.out; unfold sumF at h3; have h4 := HGk.out; simp only [List.length_cons] at h4; have h5 := HNT.out; omega) (by have h1 := HG1.out.size; have h2 := bc_size HX3.out; have h3 := HZk.out; omega) ?_
          intro A4 n4 c4 w4 hT4 hlow
          have HT4 := hid hT4
          have HL4 := hid hlow
          clear hT4 hlow
          go_wp2_with fail
          go_roundg ((T ++ whomL L x).length + remW L (S ++ [x]))
          case measure => have h1 := HGk.out.1; have h2 := rem_step L S x HMm.out; simp only [List.length_cons, List.length_append] at h1 ⊢; omega
          case rel => exact ⟨S ++ [x], _, _, _, T ++ whomL L x, rfl, HT4, hid (by rw [List.length_append]; exact (HS1.out.below HX3.out).low HL4.out (by have := HSZ.out; omega)), hid (inv_new HW.out HIk.out), hid ⟨rfl, by have h1 := HGk.out.1; have h2 := HGk.out.2; have h3 := rem_step L S x HMm.out; simp only [List.length_cons, List.length_append, List.length_nil] at h1 ⊢; omega⟩, bc_low (bc_trans HK1 HX3.out) (by have := HSZ.out; omega) HL4.out, by have h1 := HG1.out.size; have h2 := bc_size HX3.out; have h3 := HZk.out; have h4 := HL4.out.size; omega⟩
      ·
        rcases (show decide (x ∈ S) = true ∨ decide (x ∈ S) = false by cases decide (x ∈ S) <;> simp) with hm | hm
        · have HMm := hid (of_decide_eq_true hm)
          go_wp2_with (at_lookup; refine look55 _ rfl (.tmp 21) (.tmp 22) rfl w.heap.size S.length S x rfl HSk.out rfl HXW.out ?_; rw [hm])
          go_roundg (T.length + remW L S)
          case measure => have := HGk.out.1; simp only [List.length_cons] at this; omega
          case rel => exact ⟨S, _, _, _, T, rfl, hid (HTT.out (some ⟨g, off + 1, none⟩) (fun _ => rfl)), HSk, hid (inv_old HIk.out HMm.out), hid ⟨rfl, by have h1 := HGk.out.1; have h2 := HGk.out.2; simp only [List.length_cons] at h1; omega⟩, HK, HZk.out⟩
        · have HMm := hid (of_decide_eq_false hm)
          go_wp2_with (first | (at_lookup; refine look55 _ rfl (.tmp 21) (.tmp 22) rfl w.heap.size S.length S x rfl HSk.out rfl HXW.out ?_; rw [hm]) | (at_mapUpdate; refine store55 _ rfl (.tmp 24) (.tmp 25) _ rfl w.heap.size S.length S x rfl HSk.out (by have := HGk.out.2; unfold maxLen; omega) rfl rfl HXW.out ?_; intro w1 hS1 hg1; have HS1 := hid hS1; have HG1 := hid hg1; have HK1 : BelowC w w1 := bc_grown HK hg1 (fun k hk => by cases hk; exact Nat.le_refl _); clear hS1 hg1) | (go_at_call 37; refine (ForWhom A n c L x _ (H.out.below HK1)).mono ?_; rintro e v3 ⟨A3, n3, c3, rfl, hN3, hb⟩; have HN3 := hid hN3; have HX3 := hid hb; clear hN3 hb) | (at_builtin; (fail_if_success have := hcs); refine pause ?_))
          unfold Pause
          refine appT (b0 := wm) rfl (.tmp 26) (.tmp 29) rfl (some ⟨g, off + 1, none⟩) (nt - 1) (ct - 1) T rfl (todo_below (todo_kept (HTT.out (some ⟨g, off + 1, none⟩) (fun _ => rfl)) HG1.out (by have := HSZ.out; omega)) HX3.out) A3 n3 c3 (whomL L x) rfl HN3.out (by have h1 := HN3.out.1; have h2 := rem_whom L x; have h3 := HS.out; unfold sumF at h3; have h4 := HGk.out; simp only [List.length_cons] at h4; have h5 := HNT.out; omega) (by have h1 := HG1.out.size; have h2 := bc_size HX3.out; have h3 := HZk.out; omega) ?_
          intro A4 n4 c4 w4 hT4 hlow
          have HT4 := hid hT4
          have HL4 := hid hlow
          clear hT4 hlow
          go_wp2_with fail
          go_roundg ((T ++ whomL L x).length + remW L (S ++ [x]))
          case measure => have h1 := HGk.out.1; have h2 := rem_step L S x HMm.out; simp only [List.length_cons, List.length_append] at h1 ⊢; omega
          case rel => exact ⟨S ++ [x], _, _, _, T ++ whomL L x, rfl, HT4, hid (by rw [List.length_append]; exact (HS1.out.below HX3.out).low HL4.out (by have := HSZ.out; omega)), hid (inv_new HW.out HIk.out), hid ⟨rfl, by have h1 := HGk.out.1; have h2 := HGk.out.2; have h3 := rem_step L S x HMm.out; simp only [List.length_cons, List.length_append, List.length_nil] at h1 ⊢; omega⟩, bc_low (bc_trans HK1 HX3.out) (by have := HSZ.out; omega) HL4.out, by have h1 := HG1.out.size; have h2 := bc_size HX3.out; have h3 := HZk.out; have h4 := HL4.out.size; omega⟩
end Go.Proofs.Ytmokjaelgfikeaa.K
