/- Contracts of packages key and plan: what each comes to. -/
import Derived.Test.YtldjgcgcbcmkfaaProg
import Derived.Below
import Derived.WalkKit
import Derived.KernelRfl
import Derived.RowKit
import Derived.RowKit3
import Derived.Tactics
import Derived.Deep.QuietTactic
import Derived.BigQuiet
import Derived.OwnWalk
import Derived.Outline
import Derived.Handy
import Derived.StillTailTactics
import Derived.Deep.RegionHeld3
import Derived.Deep.DeepCutAuto
import Derived.Deep.CutBlock
import Derived.Shelf.Abstract
import Derived.Lib.Strings
import Derived.Test.YtldjgcgcbcmkfaaB5
namespace Go.Proofs.Ytldjgcgcbcmkfaa.K
open Go.RowKit Go.Proofs.YtldjgcgcbcmkfaaS
set_option linter.unusedSimpArgs false
set_option linter.unusedVariables false
attribute [local go_sem] s_leq s_gtr s_geq s_maxr s_minr

attribute [local go_sem] bc_alloc2 bc_alloc3 s_alloc_drewN s_setCell_drewN bc_alloc bc_drewN bc_drew

structure PrAt (w : World) (b o : Nat) (g : PrV) : Prop where
  c0 : w.cell? ⟨b, o, none⟩ = some (.bool g.only)
  c1 : w.cell? ⟨b, o + 1, none⟩ = some (.slice g.A g.n g.c)
  ops : Ops w g.A g.n g.f
theorem PrAt.below {w w' : World} {b o : Nat} {g : PrV} (h : PrAt w b o g) (hb : BelowC w w') (hlt : b < w.heap.size) : PrAt w' b o g :=
  ⟨bc_cell h.c0 hlt w' hb, bc_cell h.c1 hlt w' hb, h.ops.below hb⟩
/-- A slice of programs. -/
def Progs (w : World) (A : Option Addr) (n : Nat) (G : Nat → PrV) : Prop :=
  n ≤ 9223372036854775807 ∧ (0 < n → ∃ b o, A = some ⟨b, o, none⟩ ∧ b < w.heap.size ∧ ∀ i, i < n → PrAt w b (o + i * 2) (G i))
theorem Progs.below {w w' : World} {A : Option Addr} {n : Nat} {G : Nat → PrV} (h : Progs w A n G) (hb : BelowC w w') : Progs w' A n G := by
  refine ⟨h.1, fun h0 => ?_⟩
  obtain ⟨b, o, e, hlt, hc⟩ := h.2 h0
  exact ⟨b, o, e, bc_lt hb hlt, fun i hi => (hc i hi).below hb hlt⟩
def gB (G : Nat → PrV) (t : Int) (i : Nat) : Bool := progB (G i).n (G i).f t
def progsI (n : Nat) (G : Nat → PrV) (t : Int) : Int := bif decide ((n : Int) ≤ 6) then errI (!(anyB (fun i => !gB G t i) n)) else 2
theorem cfg_tables {t l v g p : Int} (h : cfgB t l v g p = true) : withinB t 3 = true := by simp [cfgB] at h; exact h.1
theorem any_hit {p : Nat → Bool} {n k : Nat} (hk : k < n) (h : p k = true) : anyB p n = true := anyB_iff.2 ⟨k, hk, h⟩
theorem any_miss {p : Nat → Bool} {n : Nat} (h : ∀ j, j < n → p j = false) : anyB p n = false := by
  cases e : anyB p n with
  | false => rfl
  | true => obtain ⟨i, hi, hp⟩ := anyB_iff.1 e; rw [h i hi] at hp; cases hp
set_option maxHeartbeats 2000000 in
theorem Programs (t l v g p : Int) (A : Option Addr) (n c : Nat) (G : Nat → PrV) (w : World) (hcfg : cfgB t l v g p = true) (h : Progs w A n G) :
    Calls Try.prog 7 #[.agg #[.int .i64 t, .int .i64 l, .int .i64 v, .int .i64 g, .int .i64 p], .slice A n c] w (Ret (.int .i64 (progsI n G t)) w) := by
  have hn := h.1
  have hw := cfg_tables hcfg
  have H := hid h
  clear h
  have h0 : BelowC w w := bc_refl w
  have hA : BelowC w (w.alloc (.cells #[.int .i64 t, .int .i64 l, .int .i64 v, .int .i64 g, .int .i64 p] 34)) := bc_alloc h0 _
  have c0 := bc_cell (b := w.alloc (.cells #[.int .i64 t, .int .i64 l, .int .i64 v, .int .i64 g, .int .i64 p] 34)) (k := w.heap.size) (o := 0) (v := .int .i64 t) (by go_simp) (by simp)
  have c1 := bc_cell (b := w.alloc (.cells #[.int .i64 t, .int .i64 l, .int .i64 v, .int .i64 g, .int .i64 p] 34)) (k := w.heap.size) (o := 1) (v := .int .i64 l) (by go_simp) (by simp)
  have c2 := bc_cell (b := w.alloc (.cells #[.int .i64 t, .int .i64 l, .int .i64 v, .int .i64 g, .int .i64 p] 34)) (k := w.heap.size) (o := 2) (v := .int .i64 v) (by go_simp) (by simp)
  have c3 := bc_cell (b := w.alloc (.cells #[.int .i64 t, .int .i64 l, .int .i64 v, .int .i64 g, .int .i64 p] 34)) (k := w.heap.size) (o := 3) (v := .int .i64 g) (by go_simp) (by simp)
  have c4 := bc_cell (b := w.alloc (.cells #[.int .i64 t, .int .i64 l, .int .i64 v, .int .i64 g, .int .i64 p] 34)) (k := w.heap.size) (o := 4) (v := .int .i64 p) (by go_simp) (by simp)
  have hAA := bc_refl (w.alloc (.cells #[.int .i64 t, .int .i64 l, .int .i64 v, .int .i64 g, .int .i64 p] 34))
  by_cases h6 : (n : Int) ≤ 6
  rotate_left
  · go_enter Try.func7, Try.ntmps7
    go_wp2_with (go_at_call 6; (with_reducible refine (CConfig _ _ _ _ _ _).mono ?_); rintro e v1 ⟨rfl, hb⟩; have HX : BelowC (w.alloc (.cells #[.int .i64 t, .int .i64 l, .int .i64 v, .int .i64 g, .int .i64 p] 34)) v1 := bc_step (by repeat (with_reducible first | assumption | exact bc_refl _ | apply bc_alloc | apply bc_drewN | apply bc_drew)) hb; have HX0 : BelowC w v1 := bc_trans hA HX; clear hb)
    go_returns
    exact ⟨by simp [progsI, show ¬ (n : Int) ≤ 6 by omega], by assumption⟩
  go_enter Try.func7, Try.ntmps7
  go_wp2_with (go_at_call 6; (with_reducible refine (CConfig _ _ _ _ _ _).mono ?_); rintro e v1 ⟨rfl, hb⟩; have HX : BelowC (w.alloc (.cells #[.int .i64 t, .int .i64 l, .int .i64 v, .int .i64 g, .int .i64 p] 34)) v1 := bc_step (by repeat (with_reducible first | assumption | exact bc_refl _ | apply bc_alloc | apply bc_drewN | apply bc_drew)) hb; have HX0 : BelowC w v1 := bc_trans hA HX; clear hb)
  go_loopw [7, 8, 19] (fun _ _ y wr => ∃ k : Nat, k ≤ n ∧ y = .int .i64 k ∧ BelowC (w.alloc (.cells #[.int .i64 t, .int .i64 l, .int .i64 v, .int .i64 g, .int .i64 p] 34)) wr ∧ Hid (∀ j, j < k → gB G t j = true)) (fun _ _ y _ => n - (intOf y).toNat)
  case atStart => exact ⟨0, by omega, rfl, by assumption, hid (fun j hj => absurd hj (by omega))⟩
  case round =>
    clear HX HX0
    obtain ⟨k, hk, rfl, HK, HA⟩ := hrel
    rename World => wK
    by_cases hlt : k < n
    · obtain ⟨b, o, rfl, hb0, hc⟩ := H.out.2 (by omega)
      have hx := (hc k hlt).below (bc_trans hA HK) hb0
      have q0 := hx.c0
      have q1 := hx.c1
      have HO := hid hx.ops
      clear hx hc
      cases hq : gB G t k
      all_goals
        have hq' := hq
        simp only [gB] at hq'
        go_wp2_with (go_at_call 8; (with_reducible refine (CProgram _ _ _ _ (G k).f _ _ (HO.out.below (by first | exact bc_refl _ | exact bc_alloc (bc_refl _) _))).mono ?_); rintro e v1 ⟨rfl, hb⟩; have HX : BelowC (w.alloc (.cells #[.int .i64 t, .int .i64 l, .int .i64 v, .int .i64 g, .int .i64 p] 34)) v1 := bc_step (by repeat (with_reducible first | assumption | exact bc_refl _ | apply bc_alloc | apply bc_drewN | apply bc_drew)) hb; clear hb)
      · go_returns
        exact ⟨by simp [progsI, h6, any_hit (p := fun i => !gB G t i) hlt (by simp [hq]), errI], bc_trans hA HX⟩
      · go_roundw
        case rel =>
          refine ⟨k + 1, by omega, by go_num, HX, hid fun j hj => ?_⟩
          by_cases e : j = k
          · subst e; exact hq
          · exact HA.out j (by omega)
        case measure => simp [intOf]; omega
    · have HN := hid (any_miss (p := fun i => !gB G t i) (n := n) (fun j hj => by rw [HA.out j (by omega)]; rfl))
      go_wp2_with fail
      go_returns
      exact ⟨by simp [progsI, h6, HN.out, errI], bc_trans hA HK⟩
end Go.Proofs.Ytldjgcgcbcmkfaa.K
