/- wait.May. -/
import Derived.Test.YtmokjaelgfikeaaProg
import Derived.Below
import Derived.WalkKit
import Derived.KernelRfl
import Derived.RowKit
import Derived.RowKit3
import Derived.Tactics
import Derived.Deep.QuietTactic
import Derived.BigQuiet
import Derived.OwnWalk
import Derived.Outline
import Derived.Handy
import Derived.StillTailTactics
import Derived.Deep.RegionHeld3
import Derived.Deep.DeepCutAuto
import Derived.Deep.CutBlock
import Derived.Shelf.Abstract
import Derived.Shelf.SlSortCmp.QuietGrown
import Derived.Lib.SliceRun
import Derived.Sort.OwnSortedInts
import Derived.Lib.SlicesCompact
import Derived.Lib.SmallJoins
import Derived.SliceStrings
import Derived.ArgAppend
import Derived.Deep.AppendSrc
import Derived.Deep.Upon
import Derived.Deep.Slices
import Derived.ChangeSame
import Derived.Maps.OwnSet
import Derived.Maps.Range
import Derived.Maps.OwnOps
import Derived.Lib.SlKeysI
import Derived.Maps.Views
import Derived.Test.YtmokjaelgfikeaaC4
namespace Go.Proofs.Ytmokjaelgfikeaa.K
open Go.RowKit
set_option linter.unusedSimpArgs false
set_option linter.unusedVariables false
attribute [local go_sem] bc_alloc2 bc_alloc3 s_alloc_drewN s_setCell_drewN bc_alloc bc_drewN bc_drew

set_option maxRecDepth 100000 in
set_option maxHeartbeats 4000000 in
theorem May (A : Option Addr) (n c : Nat) (L : List WaitV) (w : World) (h : Wts w A n L) (hbig : n ≤ 17592186044415) : Calls Try.prog 20 #[.slice A n c] w (Ret (.bool (decide (MayW L))) w) := by
  have hn := h.2.1
  have H := hid h
  have HL := hid h.1
  clear h
  go_enter Try.func20, Try.ntmps20
  go_wp2_with fail
  go_loopw [3, 5, 8] (fun u _ v wr => ∃ k : Nat, k ≤ n ∧ v = .int .i64 k ∧ BelowC w wr ∧ Hid (∀ j (hj : j < L.length), j < k → Rises L[j].f ∧ L[j].o ∉ L[j].f) ∧ Hid (OwnI wr w u ((L.take k).map (·.o)))) (fun _ _ v _ => n - (intOf v).toNat)
  case atStart => exact ⟨0, by omega, rfl, bc_refl w, hid (fun j _ hj => absurd hj (by omega)), hid (ownI_nil _ _)⟩
  case round =>
    obtain ⟨k, hk, rfl, HK, HA, HO⟩ := hrel
    rename World => wK
    by_cases hlt : k < n
    · obtain ⟨b, o1, rfl, hb0, hc⟩ := H.out.2.2 (by omega)
      have hkl : k < L.length := by have := HL.out; omega
      have hx := (hc k hkl).below HK hb0
      have HKL := hid hkl
      have HT := hid (take_succW hkl)
      have HTL : Hid (((L.take k).map (·.o)).length = k) := hid (by rw [List.length_map, List.length_take]; omega)
      have HBAD : Hid (¬ (Rises L[k].f ∧ L[k].o ∉ L[k].f) → decide (MayW L) = false) := hid (fun h => decide_eq_false fun hm => h (hm.1 _ (List.getElem_mem hkl)))
      have HST : Hid ((Rises L[k].f ∧ L[k].o ∉ L[k].f) → ∀ j (hj : j < L.length), j < k + 1 → Rises L[j].f ∧ L[j].o ∉ L[j].f) := hid (fun h j hjl hj => by
        by_cases e : j = k
        · subst e; exact h
        · exact HA.out j hjl (by omega))
      generalize L[k] = x at hx HT HBAD HST
      have q0 := hx.c0
      have q1 := hx.c1
      have HN := hid hx.ns
      have i1 : (k : Int) < (n : Int) := by omega
      clear hx hc hkl
      obtain ⟨wx, hBx, hXX, hsx, r0, r1⟩ : ∃ wb : World, BelowC wK wb ∧ BelowC wb (wK.alloc (.cells #[.int .i64 x.o, .slice x.A x.n x.c] 41)) ∧ wK.heap.size + 1 ≤ wb.heap.size ∧ (∀ w', BelowC wb w' → w'.cell? ⟨wK.heap.size, 0, none⟩ = some (.int .i64 x.o)) ∧ (∀ w', BelowC wb w' → w'.cell? ⟨wK.heap.size, 1, none⟩ = some (.slice x.A x.n x.c)) := ⟨_, bc_alloc (bc_refl _) _, bc_refl _, by simp, bc_cell (by go_simp) (by first | (simp; done) | (simp; omega)), bc_cell (by go_simp) (by first | (simp; done) | (simp; omega))⟩
      have HBx := hid hBx
      rcases (show decide (Rises x.f) = true ∨ decide (Rises x.f) = false by cases decide (Rises x.f) <;> simp) with hr | hr
      rotate_left
      · have HF := hid (HBAD.out (fun h => by rw [decide_eq_true h.1] at hr; cases hr))
        go_wp2_with (go_at_call 28; refine (Rising x.A x.n x.c x.f _ (HN.out.below (by exact bc_trans HBx.out (by repeat (with_reducible first | assumption | exact bc_refl _ | apply bc_alloc | apply bc_drewN | apply bc_drew))))).mono ?_; rintro e v1 ⟨rfl, hb⟩; rw [hr]; have HX : BelowC wx v1 := bc_step (by repeat (with_reducible first | assumption | exact bc_refl _ | apply bc_alloc | apply bc_drewN | apply bc_drew)) hb; clear hb)
        go_returns
        exact ⟨by first | (rw [HF.out]; rfl) | rw [HF.out], bc_trans HK (bc_trans HBx.out HX)⟩
      rcases (show decide (x.o ∈ x.f) = true ∨ decide (x.o ∈ x.f) = false by cases decide (x.o ∈ x.f) <;> simp) with hm | hm
      · have HF := hid (HBAD.out (fun h => h.2 (of_decide_eq_true hm)))
        go_wp2_with (first | (go_at_call 28; refine (Rising x.A x.n x.c x.f _ (HN.out.below (by exact bc_trans HBx.out (by repeat (with_reducible first | assumption | exact bc_refl _ | apply bc_alloc | apply bc_drewN | apply bc_drew))))).mono ?_; rintro e v1 ⟨rfl, hb⟩; rw [hr]; have HX : BelowC wx v1 := bc_step (by repeat (with_reducible first | assumption | exact bc_refl _ | apply bc_alloc | apply bc_drewN | apply bc_drew)) hb; clear hb) | (go_at_call 29; refine (Contains x.o x.A x.n x.c x.f _ (HN.out.below (bc_trans HBx.out (by repeat (with_reducible first | assumption | exact bc_refl _ | apply bc_alloc | apply bc_drewN | apply bc_drew))))).mono ?_; rintro e v2 ⟨rfl, hb⟩; rw [hm]; have HX2 : BelowC wx v2 := bc_step (by repeat (with_reducible first | assumption | exact bc_refl _ | apply bc_alloc | apply bc_drewN | apply bc_drew)) hb; clear hb))
        go_returns
        exact ⟨by first | (rw [HF.out]; rfl) | rw [HF.out], bc_trans HK (bc_trans HBx.out HX2)⟩
      · have HS := hid (HST.out ⟨of_decide_eq_true hr, of_decide_eq_false hm⟩)
        go_wp2_with (first | (go_at_call 28; refine (Rising x.A x.n x.c x.f _ (HN.out.below (by exact bc_trans HBx.out (by repeat (with_reducible first | assumption | exact bc_refl _ | apply bc_alloc | apply bc_drewN | apply bc_drew))))).mono ?_; rintro e v1 ⟨rfl, hb⟩; rw [hr]; have HX : BelowC wx v1 := bc_step (by repeat (with_reducible first | assumption | exact bc_refl _ | apply bc_alloc | apply bc_drewN | apply bc_drew)) hb; clear hb) | (go_at_call 29; refine (Contains x.o x.A x.n x.c x.f _ (HN.out.below (bc_trans HBx.out (by repeat (with_reducible first | assumption | exact bc_refl _ | apply bc_alloc | apply bc_drewN | apply bc_drew))))).mono ?_; rintro e v2 ⟨rfl, hb⟩; rw [hm]; have HX2 : BelowC wx v2 := bc_step (by repeat (with_reducible first | assumption | exact bc_refl _ | apply bc_alloc | apply bc_drewN | apply bc_drew)) hb; clear hb) | (at_builtin; refine app23 (b := w) rfl (.tmp 23) (.tmp 26) rfl _ ((L.take k).map (·.o)) rfl (ownI_below HO.out (bc_alloc (bc_trans HBx.out HX2) _)) v2.heap.size x.o rfl (one_int v2 x.o) (by have := HTL.out; omega) (bc_alloc (bc_trans HK (bc_trans HBx.out HX2)) _) ?_; intro v' w1 hown1 HB1; have HOWN := hid hown1; clear hown1))
        go_roundw
        case rel => exact ⟨k + 1, by omega, by go_num, HB1, HS, hid (by rw [HT.out]; exact HOWN.out)⟩
        case measure => simp [intOf]; omega
    · obtain ⟨A', n', c', rfl, hn', _, hN, _⟩ := ownI_form HO.out
      have HN := hid hN
      have e : (L.take k).map (·.o) = L.map (·.o) := by rw [List.take_of_length_le (by have := HL.out; omega)]
      rw [e] at HN
      have HALL : Hid (∀ x ∈ L, Rises x.f ∧ x.o ∉ x.f) := hid (fun x hx => by
        obtain ⟨j, hj, rfl⟩ := List.mem_iff_getElem.1 hx
        exact HA.out j hj (by have := HL.out; omega))
      clear hn' hN e
      by_cases h6 : (n : Int) ≤ 6
      · have d6 : decide ((n : Int) ≤ 6) = true := decide_eq_true h6
        have HF : Hid (decide (Rises (L.map (·.o))) = decide (MayW L)) := hid (decide_eq_decide.2 ⟨fun h => ⟨HALL.out, by have := HL.out; omega, h⟩, fun h => h.2.2⟩)
        go_wp2_with (go_at_call 28; refine (Rising A' n' c' (L.map (·.o)) _ HN.out).mono ?_; rintro e v1 ⟨rfl, hb⟩; rw [HF.out]; have HX : BelowC w v1 := bc_step HK hb; clear hb)
        go_returns
        exact ⟨rfl, HX⟩
      · have d6 : decide ((n : Int) ≤ 6) = false := decide_eq_false h6
        have HF : Hid (decide (MayW L) = false) := hid (decide_eq_false fun h => by have := h.2.1; have := HL.out; omega)
        go_wp2_with fail
        go_returns
        exact ⟨by first | (rw [HF.out]; rfl) | rw [HF.out], HK⟩
end Go.Proofs.Ytmokjaelgfikeaa.K
