/- Contracts of packages key and plan: what each comes to. -/
import Derived.Test.YtldjgcgcbcmkfaaProg
import Derived.Below
import Derived.WalkKit
import Derived.KernelRfl
import Derived.RowKit
import Derived.RowKit3
import Derived.Tactics
import Derived.Deep.QuietTactic
import Derived.BigQuiet
import Derived.OwnWalk
import Derived.Outline
import Derived.Handy
import Derived.StillTailTactics
import Derived.Deep.RegionHeld3
import Derived.Deep.DeepCutAuto
import Derived.Deep.CutBlock
import Derived.Shelf.Abstract
import Derived.Lib.Strings
import Derived.Test.YtldjgcgcbcmkfaaB10
namespace Go.Proofs.Ytldjgcgcbcmkfaa.K
open Go.RowKit Go.Proofs.YtldjgcgcbcmkfaaS
set_option linter.unusedSimpArgs false
set_option linter.unusedVariables false
attribute [local go_sem] s_leq s_gtr s_geq s_maxr s_minr

attribute [local go_sem] bc_alloc2 bc_alloc3 s_alloc_drewN s_setCell_drewN bc_alloc bc_drewN bc_drew

theorem Progs_le {w : World} {A : Option Addr} {n m : Nat} {G : Nat → PrV} (h : Progs w A n G) (hm : m ≤ n) : Progs w A m G :=
  ⟨Nat.le_trans hm h.1, fun h0 => by
    obtain ⟨b, o, e, hlt, hc⟩ := h.2 (by omega)
    exact ⟨b, o, e, hlt, fun i hi => hc i (by omega)⟩⟩
theorem progsI_less {n : Nat} {G : Nat → PrV} {t : Int} (h : progsI (n + 1) G t = 0) : progsI n G t = 0 := by
  obtain ⟨h6, hg⟩ := progsI_ok h
  have e : anyB (fun i => !gB G t i) n = false := any_miss fun j hj => by rw [hg j (by omega)]; rfl
  simp [progsI, show (n : Int) ≤ 6 by omega, e, errI]
theorem costs_le {n : Nat} {G : Nat → PrV} : costsI G n ≤ costsI G (n + 1) := by
  have := oneC_le (G n) (G n).n
  simp only [costsI]
  omega
theorem bound_lt {n a b : Nat} (h6 : n ≤ 5) (ha : a ≤ b) : boundI n a < boundI ((n + 1 : Nat) : Int) b := by
  rcases (show n = 0 ∨ n = 1 ∨ n = 2 ∨ n = 3 ∨ n = 4 ∨ n = 5 by omega) with e | e | e | e | e | e <;> subst e <;> simp only [boundI] <;> omega
theorem vals (n c : Nat) (A : Option Addr) (G : Nat → PrV) (w : World) (h : Progs w A (n + 1) G) : ∃ a e b f x g y z : Int,
    (∀ W, BelowC w W → Calls Try.prog 11 #[.agg #[.int .i64 2, .int .i64 60, .int .i64 50, .int .i64 1, .int .i64 1], .slice A n c] W (Ret (.tuple #[.int .i64 a, .int .i64 e]) W)) ∧
    (∀ W, BelowC w W → Calls Try.prog 11 #[.agg #[.int .i64 2, .int .i64 60, .int .i64 50, .int .i64 1, .int .i64 1], .slice A (n + 1) c] W (Ret (.tuple #[.int .i64 b, .int .i64 f]) W)) ∧
    (∀ W, BelowC w W → Calls Try.prog 13 #[.agg #[.int .i64 2, .int .i64 60, .int .i64 50, .int .i64 1, .int .i64 1], .slice A n c] W (Ret (.tuple #[.int .i64 x, .int .i64 g]) W)) ∧
    (∀ W, BelowC w W → Calls Try.prog 13 #[.agg #[.int .i64 2, .int .i64 60, .int .i64 50, .int .i64 1, .int .i64 1], .slice A (n + 1) c] W (Ret (.tuple #[.int .i64 y, .int .i64 z]) W)) ∧
    (f = 0 → e = 0 ∧ g = 0 ∧ z = 0 ∧ a ≤ b ∧ x < y) := by
  have L0 := fun W (hW : BelowC w W) => Locks 2 60 50 1 1 A n c G W (by decide) ((Progs_le h (Nat.le_succ n)).below hW)
  have L1 := fun W (hW : BelowC w W) => Locks 2 60 50 1 1 A (n + 1) c G W (by decide) (h.below hW)
  have B0 := fun W (hW : BelowC w W) => Bound 2 60 50 1 1 A n c G W (by decide) ((Progs_le h (Nat.le_succ n)).below hW)
  have B1 := fun W (hW : BelowC w W) => Bound 2 60 50 1 1 A (n + 1) c G W (by decide) (h.below hW)
  by_cases h1 : progsI (n + 1) G 2 = 0
  · have h0 := progsI_less h1
    simp only [locksV, boundV, h0, h1, if_pos] at L0 L1 B0 B1
    obtain ⟨h6, hg⟩ := progsI_ok h1
    exact ⟨_, _, _, _, _, _, _, _, L0, L1, B0, B1, fun _ => ⟨rfl, rfl, rfl, costs_le, bound_lt (by omega) (by simp only [mostN]; omega)⟩⟩
  · by_cases h0 : progsI n G 2 = 0
    · simp only [locksV, boundV, h0, h1, if_pos, if_neg, not_false_eq_true] at L0 L1 B0 B1
      exact ⟨_, _, _, _, _, _, _, _, L0, L1, B0, B1, fun h => absurd h h1⟩
    · simp only [locksV, boundV, h0, h1, if_neg, not_false_eq_true] at L0 L1 B0 B1
      exact ⟨_, _, _, _, _, _, _, _, L0, L1, B0, B1, fun h => absurd h h1⟩
set_option maxRecDepth 100000 in
set_option maxHeartbeats 4000000 in
theorem CheckMore (AC : Option Addr) (nC cC : Nat) (AM : Option Addr) (nM cM : Nat) (AL : Option Addr) (nL cL : Nat) (AK : Option Addr) (nK cK : Nat) (AG : Option Addr) (nG cG : Nat)  (M : Nat → MpV) (R : Nat → RowV) (G : Nat → PrV) (w : World) (hM : Mps w AM nM M) (hL : Wrts w AL nL R) (hK : nK ≤ 9223372036854775807) (hG : Progs w AG nG G) (hC : nC ≤ 9223372036854775807) (hcap : nG ≤ cG) : Calls Try.prog 4 #[.agg #[.slice AC nC cC, .slice AM nM cM, .slice AL nL cL, .slice AK nK cK, .slice AG nG cG]] w (Ret (.bool true) w) := by
  have h0 := bc_refl w
  have hnG := hG.1
  have HM := hid hM
  have HL := hid hL
  have HG := hid hG
  have HCap := hid hcap
  clear hM hL hG
  go_enter Try.func4, Try.ntmps4
  go_wp2_with fail
  refine (Heavy AC nC cC AM nM cM AL nL cL AK nK cK AG nG cG M R G _ (HM.out.below (bc_alloc h0 _)) (HL.out.below (bc_alloc h0 _)) hK (HG.out.below (bc_alloc h0 _)) hC).mono ?_
  rintro e wB ⟨hv, rfl, hb⟩
  have HW := hid (bc_step (bc_alloc h0 _) hb)
  have hc4 := bc_cell (v := .slice AG nG cG) ((Below.cell hb (p := ⟨w.heap.size, 4, none⟩) (by simp)).trans (by go_simp)) (by have := hb.size; simp at this; omega)
  have HG1 := hid (HG.out.below HW.out)
  clear HM HL HG hb h0
  cases hv
  rotate_left
  · go_wp2_with fail
    go_returns
    exact ⟨rfl, HW.out⟩
  have HB := bc_refl wB
  go_wp2_with fail
  go_loopw [3, 4, 5, 6, 7, 8, 9, 10, 11] (fun u _ _ _ _ _ _ _ _ wr => ∃ i : Nat, (i ≤ nG ∧ i ≤ 6) ∧ u = .int .i64 i ∧ BelowC wB wr) (fun u _ _ _ _ _ _ _ _ _ => 6 - (intOf u).toNat)
  case atStart => exact ⟨0, by omega, rfl, HB⟩
  case round =>
    clear HB
    obtain ⟨i, hi, rfl, HI⟩ := hrel
    rename World => wI
    by_cases hlt : i < nG
    · by_cases h6 : i < 6
      · have hb6 : decide ((i : Int) < 6) = true := decide_eq_true (by omega)
        obtain ⟨bg, og, rfl, hbg, -⟩ := HG1.out.2 (by omega)
        obtain ⟨a, e, b, f, x, g, y, z, L0, L1, B0, B1, hv⟩ := vals i cG _ G wB (Progs_le HG1.out hlt)
        have hic : i ≤ cG := by have := HCap.out; omega
        have hic1 : i + 1 ≤ cG := by have := HCap.out; omega
        have HL0 := hid L0
        have HL1 := hid L1
        have HB0 := hid B0
        have HB1 := hid B1
        have HV := hid hv
        clear L0 L1 B0 B1 hv
        go_upto_region 6 with (fail)
        go_cut [4, 5] (fun u v wc => u = .int .i64 a ∧ v = .int .i64 e ∧ BelowC wB wc)
        case first =>
          as_aux_lemma =>
          go_wp2_with fail
          go_region_held3 (fun w' => BelowC wB w') (repeat (with_reducible first | assumption | apply bc_alloc | apply bc_drewN | apply bc_drew)) (first | (go_at_call 12; refine (LConfig _).mono ?_; rintro ee v1 ⟨rfl, hb⟩; have HX : BelowC wB v1 := bc_step (by repeat (with_reducible first | assumption | apply bc_alloc | apply bc_drewN | apply bc_drew)) hb; clear hb) | (go_at_call 11; refine (HL0.out _ (by repeat (with_reducible first | assumption | apply bc_alloc | apply bc_drewN | apply bc_drew))).mono ?_; rintro ee v1 ⟨rfl, hb⟩; have HX : BelowC wB v1 := bc_step (by repeat (with_reducible first | assumption | apply bc_alloc | apply bc_drewN | apply bc_drew)) hb; clear hb))
          all_goals
            go_wp2_with fail
            go_meet
            case rel => exact ⟨rfl, rfl, by with_reducible assumption⟩
        case rest =>
        clear HI
        obtain ⟨rfl, rfl, HI⟩ := hcut
        go_upto_region 7 with (fail)
        go_cut [6, 7] (fun u v wc => u = .int .i64 b ∧ v = .int .i64 f ∧ BelowC wB wc)
        case first =>
          as_aux_lemma =>
          go_wp2_with fail
          have hi0 : 0 ≤ (i : Int) + 1 := by omega
          have hi1 : (i : Int) + 1 ≤ (cG : Int) := by omega
          have hwr : wrap64 ((i : Int) + 1) = (i : Int) + 1 := by simp only [wrap64]; omega
          have hwr2 : IntKind.i64.wrap ((i : Int) + 1) = (i : Int) + 1 := IntWalk.i64_in _ ⟨by omega, by omega⟩
          have htn : ((i : Int) + 1).toNat = i + 1 := by omega
          go_region_held3 (fun w' => BelowC wB w') (repeat (with_reducible first | assumption | apply bc_alloc | apply bc_drewN | apply bc_drew)) (first | (go_at_call 12; refine (LConfig _).mono ?_; rintro ee v1 ⟨rfl, hb⟩; have HX : BelowC wB v1 := bc_step (by repeat (with_reducible first | assumption | apply bc_alloc | apply bc_drewN | apply bc_drew)) hb; clear hb) | (go_at_call 11; refine (HL1.out _ (by repeat (with_reducible first | assumption | apply bc_alloc | apply bc_drewN | apply bc_drew))).mono ?_; rintro ee v1 ⟨rfl, hb⟩; have HX : BelowC wB v1 := bc_step (by repeat (with_reducible first | assumption | apply bc_alloc | apply bc_drewN | apply bc_drew)) hb; clear hb))
          all_goals
            go_wp2_with fail
            go_meet
            case rel => exact ⟨rfl, rfl, by with_reducible assumption⟩
        case rest =>
        clear HI
        obtain ⟨rfl, rfl, HI⟩ := hcut
        go_upto_region 8 with (fail)
        go_cut [8, 9] (fun u v wc => u = .int .i64 x ∧ v = .int .i64 g ∧ BelowC wB wc)
        case first =>
          as_aux_lemma =>
          go_wp2_with fail
          go_region_held3 (fun w' => BelowC wB w') (repeat (with_reducible first | assumption | apply bc_alloc | apply bc_drewN | apply bc_drew)) (first | (go_at_call 12; refine (LConfig _).mono ?_; rintro ee v1 ⟨rfl, hb⟩; have HX : BelowC wB v1 := bc_step (by repeat (with_reducible first | assumption | apply bc_alloc | apply bc_drewN | apply bc_drew)) hb; clear hb) | (go_at_call 13; refine (HB0.out _ (by repeat (with_reducible first | assumption | apply bc_alloc | apply bc_drewN | apply bc_drew))).mono ?_; rintro ee v1 ⟨rfl, hb⟩; have HX : BelowC wB v1 := bc_step (by repeat (with_reducible first | assumption | apply bc_alloc | apply bc_drewN | apply bc_drew)) hb; clear hb))
          all_goals
            go_wp2_with fail
            go_meet
            case rel => exact ⟨rfl, rfl, by with_reducible assumption⟩
        case rest =>
        clear HI
        obtain ⟨rfl, rfl, HI⟩ := hcut
        go_upto_region 9 with (fail)
        go_cut [10, 11] (fun u v wc => u = .int .i64 y ∧ v = .int .i64 z ∧ BelowC wB wc)
        case first =>
          as_aux_lemma =>
          go_wp2_with fail
          have hi0 : 0 ≤ (i : Int) + 1 := by omega
          have hi1 : (i : Int) + 1 ≤ (cG : Int) := by omega
          have hwr : wrap64 ((i : Int) + 1) = (i : Int) + 1 := by simp only [wrap64]; omega
          have hwr2 : IntKind.i64.wrap ((i : Int) + 1) = (i : Int) + 1 := IntWalk.i64_in _ ⟨by omega, by omega⟩
          have htn : ((i : Int) + 1).toNat = i + 1 := by omega
          go_region_held3 (fun w' => BelowC wB w') (repeat (with_reducible first | assumption | apply bc_alloc | apply bc_drewN | apply bc_drew)) (first | (go_at_call 12; refine (LConfig _).mono ?_; rintro ee v1 ⟨rfl, hb⟩; have HX : BelowC wB v1 := bc_step (by repeat (with_reducible first | assumption | apply bc_alloc | apply bc_drewN | apply bc_drew)) hb; clear hb) | (go_at_call 13; refine (HB1.out _ (by repeat (with_reducible first | assumption | apply bc_alloc | apply bc_drewN | apply bc_drew))).mono ?_; rintro ee v1 ⟨rfl, hb⟩; have HX : BelowC wB v1 := bc_step (by repeat (with_reducible first | assumption | apply bc_alloc | apply bc_drewN | apply bc_drew)) hb; clear hb))
          all_goals
            go_wp2_with fail
            go_meet
            case rel => exact ⟨rfl, rfl, by with_reducible assumption⟩
        case rest =>
        clear HI
        obtain ⟨rfl, rfl, HI⟩ := hcut
        rename World => wZ
        clear HL0 HL1 HB0 HB1
        by_cases hf : f = 0
        · obtain ⟨rfl, rfl, rfl, hab, hxy⟩ := HV.out hf
          subst hf
          go_wp2_with (first | (go_at_call 5; refine (num' _ _).mono ?_; rintro ee _ ⟨rfl, rfl⟩))
          go_roundw
          case rel => exact ⟨i + 1, by omega, by go_num, HI⟩
          case measure => simp [intOf]; omega
        · go_wp2_with (first | (go_at_call 5; refine (num' _ _).mono ?_; rintro ee _ ⟨rfl, rfl⟩) | (go_at_call 9; refine (wakes _).mono ?_; rintro ee v1 ⟨rfl, hb⟩))
          go_returns
          exact ⟨rfl, bc_trans HW.out (bc_step HI hb)⟩
      · have hb6 : decide ((i : Int) < 6) = false := decide_eq_false (by omega)
        go_wp2_with (first | (go_at_call 9; refine (wakes _).mono ?_; rintro ee v1 ⟨rfl, hb⟩))
        go_returns
        exact ⟨rfl, bc_trans HW.out (bc_step HI hb)⟩
    · go_wp2_with (first | (go_at_call 9; refine (wakes _).mono ?_; rintro ee v1 ⟨rfl, hb⟩))
      go_returns
      exact ⟨rfl, bc_trans HW.out (bc_step HI hb)⟩
end Go.Proofs.Ytldjgcgcbcmkfaa.K
