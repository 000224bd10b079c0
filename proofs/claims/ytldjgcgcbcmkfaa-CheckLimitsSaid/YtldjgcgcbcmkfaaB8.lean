/- Contracts of packages key and plan: what each comes to. -/
import Derived.Test.YtldjgcgcbcmkfaaProg
import Derived.Below
import Derived.WalkKit
import Derived.KernelRfl
import Derived.RowKit
import Derived.RowKit3
import Derived.Tactics
import Derived.Deep.QuietTactic
import Derived.BigQuiet
import Derived.OwnWalk
import Derived.Outline
import Derived.Handy
import Derived.StillTailTactics
import Derived.Deep.RegionHeld3
import Derived.Deep.DeepCutAuto
import Derived.Deep.CutBlock
import Derived.Shelf.Abstract
import Derived.Lib.Strings
import Derived.Test.YtldjgcgcbcmkfaaB7
namespace Go.Proofs.Ytldjgcgcbcmkfaa.K
open Go.RowKit Go.Proofs.YtldjgcgcbcmkfaaS
set_option linter.unusedSimpArgs false
set_option linter.unusedVariables false
attribute [local go_sem] s_leq s_gtr s_geq s_maxr s_minr

attribute [local go_sem] bc_alloc2 bc_alloc3 s_alloc_drewN s_setCell_drewN bc_alloc bc_drewN bc_drew

theorem progsI_ok {n : Nat} {G : Nat → PrV} {t : Int} (h : progsI n G t = 0) : n ≤ 6 ∧ ∀ i, i < n → gB G t i = true := by
  by_cases h6 : (n : Int) ≤ 6
  · refine ⟨by omega, fun i hi => ?_⟩
    simp [progsI, h6] at h
    cases e : anyB (fun i => !gB G t i) n with
    | true => rw [e] at h; simp [errI] at h
    | false =>
      cases e2 : gB G t i with
      | true => rfl
      | false => rw [any_hit (p := fun i => !gB G t i) hi (by simp [e2])] at e; cases e
  · simp [progsI, h6] at h
theorem gB_n {G : Nat → PrV} {t : Int} {i : Nat} (h : gB G t i = true) : (G i).n ≤ 12 := by
  simp [gB, progB] at h
  omega
def mostN (G : Nat → PrV) : Nat → Nat
  | 0 => 0
  | i + 1 => max (mostN G i) (G i).n
theorem mostN_le (G : Nat → PrV) (n : Nat) (h : ∀ i, i < n → (G i).n ≤ 12) : ∀ i, i ≤ n → mostN G i ≤ 12
  | 0, _ => by simp [mostN]
  | i + 1, hi => by have := mostN_le G n h i (by omega); have := h i (by omega); simp only [mostN]; omega
def boundI (n m : Int) : Int := (n * (2 * m + 2) + 1) * (n + 1)
def locksV (n : Nat) (G : Nat → PrV) (t : Int) : Value := if progsI n G t = 0 then .tuple #[.int .i64 (costsI G n), .int .i64 0] else .tuple #[.int .i64 0, .int .i64 (progsI n G t)]
def boundV (n : Nat) (G : Nat → PrV) (t : Int) : Value := if progsI n G t = 0 then .tuple #[.int .i64 (boundI n (mostN G n)), .int .i64 0] else .tuple #[.int .i64 0, .int .i64 (progsI n G t)]
set_option maxHeartbeats 2000000 in
theorem Locks (t l v g p : Int) (A : Option Addr) (n c : Nat) (G : Nat → PrV) (w : World) (hcfg : cfgB t l v g p = true) (h : Progs w A n G) : Calls Try.prog 11 #[.agg #[.int .i64 t, .int .i64 l, .int .i64 v, .int .i64 g, .int .i64 p], .slice A n c] w (Ret (locksV n G t) w) := by
  have hn := h.1
  have H := hid h
  clear h
  have h0 : BelowC w w := bc_refl w
  have hA : BelowC w (w.alloc (.cells #[.int .i64 t, .int .i64 l, .int .i64 v, .int .i64 g, .int .i64 p] 34)) := bc_alloc h0 _
  by_cases hp : progsI n G t = 0
  · have hk := hid (progsI_ok hp)
    go_enter Try.func11, Try.ntmps11
    go_wp2_with (first | (go_at_call 7; refine (Programs _ _ _ _ _ _ _ _ G _ hcfg (H.out.below (by repeat (with_reducible first | assumption | exact bc_refl _ | apply bc_alloc | apply bc_drewN | apply bc_drew)))).mono ?_; rintro e v1 ⟨rfl, hb⟩; have HX : BelowC w v1 := bc_step (by repeat (with_reducible first | assumption | exact bc_refl _ | apply bc_alloc | apply bc_drewN | apply bc_drew)) hb; clear hb) | (go_at_call 17; refine (costs _ _ _ G _ (H.out.below (by repeat (with_reducible first | assumption | exact bc_refl _ | apply bc_alloc | apply bc_drewN | apply bc_drew))) hk.out.1 (fun i hi => gB_n (hk.out.2 i hi))).mono ?_; rintro e v1 ⟨rfl, hb⟩; have HX : BelowC w v1 := bc_step (by repeat (with_reducible first | assumption | exact bc_refl _ | apply bc_alloc | apply bc_drewN | apply bc_drew)) hb; clear hb))
    go_returns
    exact ⟨by simp [locksV, hp], by assumption⟩
  · go_enter Try.func11, Try.ntmps11
    go_wp2_with (go_at_call 7; refine (Programs _ _ _ _ _ _ _ _ G _ hcfg (H.out.below (by repeat (with_reducible first | assumption | exact bc_refl _ | apply bc_alloc | apply bc_drewN | apply bc_drew)))).mono ?_; rintro e v1 ⟨rfl, hb⟩; have HX : BelowC w v1 := bc_step (by repeat (with_reducible first | assumption | exact bc_refl _ | apply bc_alloc | apply bc_drewN | apply bc_drew)) hb; clear hb)
    go_returns
    exact ⟨by simp [locksV, hp], by assumption⟩
theorem bound_wrap (n m : Nat) (h6 : n ≤ 6) (hm : m ≤ 12) : wrap64 (wrap64 (wrap64 ((n : Int) * (2 * (m : Int) + 2)) + 1) * ((n : Int) + 1)) = boundI n m := by
  rcases (show n = 0 ∨ n = 1 ∨ n = 2 ∨ n = 3 ∨ n = 4 ∨ n = 5 ∨ n = 6 by omega) with e | e | e | e | e | e | e <;> subst e <;> simp only [boundI, wrap64] <;> omega
theorem mostN_step (G : Nat → PrV) (i : Nat) : mostN G (i + 1) = max (mostN G i) (G i).n := rfl
set_option maxHeartbeats 4000000 in
theorem Bound (t l v g p : Int) (A : Option Addr) (n c : Nat) (G : Nat → PrV) (w : World) (hcfg : cfgB t l v g p = true) (h : Progs w A n G) : Calls Try.prog 13 #[.agg #[.int .i64 t, .int .i64 l, .int .i64 v, .int .i64 g, .int .i64 p], .slice A n c] w (Ret (boundV n G t) w) := by
  have hn := h.1
  have H := hid h
  clear h
  have h0 : BelowC w w := bc_refl w
  have hA : BelowC w (w.alloc (.cells #[.int .i64 t, .int .i64 l, .int .i64 v, .int .i64 g, .int .i64 p] 34)) := bc_alloc h0 _
  by_cases hp : progsI n G t = 0
  rotate_left
  · go_enter Try.func13, Try.ntmps13
    go_wp2_with (go_at_call 7; refine (Programs _ _ _ _ _ _ _ _ G _ hcfg (H.out.below (by repeat (with_reducible first | assumption | exact bc_refl _ | apply bc_alloc | apply bc_drewN | apply bc_drew)))).mono ?_; rintro e v1 ⟨rfl, hb⟩; have HX : BelowC w v1 := bc_step (by repeat (with_reducible first | assumption | exact bc_refl _ | apply bc_alloc | apply bc_drewN | apply bc_drew)) hb; clear hb)
    go_returns
    exact ⟨by simp [boundV, hp], by assumption⟩
  have hk := hid (progsI_ok hp)
  have h6 := hk.out.1
  have hm := hid (mostN_le G n (fun i hi => gB_n (hk.out.2 i hi)))
  go_enter Try.func13, Try.ntmps13
  go_wp2_with (go_at_call 7; refine (Programs _ _ _ _ _ _ _ _ G _ hcfg (H.out.below (by repeat (with_reducible first | assumption | exact bc_refl _ | apply bc_alloc | apply bc_drewN | apply bc_drew)))).mono ?_; rintro e v1 ⟨rfl, hb⟩; have HX : BelowC w v1 := bc_step (by repeat (with_reducible first | assumption | exact bc_refl _ | apply bc_alloc | apply bc_drewN | apply bc_drew)) hb; clear hb)
  go_loopw [8, 10, 21] (fun x _ y wr => ∃ i : Nat, i ≤ n ∧ x = .int .i64 (mostN G i) ∧ y = .int .i64 i ∧ BelowC w wr) (fun _ _ y _ => n - (intOf y).toNat)
  case atStart => exact ⟨0, by omega, rfl, rfl, HX⟩
  case round =>
    clear HX
    obtain ⟨i, hi, rfl, rfl, HI⟩ := hrel
    rename World => wI
    have hmi := hm.out i (by omega)
    by_cases hlt : i < n
    · obtain ⟨b, o, rfl, hb0, hc⟩ := H.out.2 (by omega)
      have hx := (hc i hlt).below HI hb0
      have hgn := gB_n (hk.out.2 i hlt)
      have hst := hid (mostN_step G i)
      clear hc
      generalize G i = gi at hx hgn hst
      obtain ⟨only, A', n', c', f'⟩ := gi
      have q0 := hx.c0
      have q1 := hx.c1
      simp only at q0 q1 hgn
      clear hx
      go_wp2_with fail
      go_roundw
      case rel => exact ⟨i + 1, by omega, congrArg (Value.int .i64) (by rw [hst.out]; split <;> simp only <;> omega), by go_num, by first | assumption | exact bc_alloc HI _⟩
      case measure => simp [intOf]; omega
    · go_wp2_with fail
      go_returns
      have e : i = n := by omega
      subst e
      refine ⟨?_, HI⟩
      simp [boundV, hp]
      exact bound_wrap _ _ h6 hmi
end Go.Proofs.Ytldjgcgcbcmkfaa.K
