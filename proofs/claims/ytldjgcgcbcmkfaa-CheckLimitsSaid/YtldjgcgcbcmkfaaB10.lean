/- Contracts of packages key and plan: what each comes to. -/
import Derived.Test.YtldjgcgcbcmkfaaProg
import Derived.Below
import Derived.WalkKit
import Derived.KernelRfl
import Derived.RowKit
import Derived.RowKit3
import Derived.Tactics
import Derived.Deep.QuietTactic
import Derived.BigQuiet
import Derived.OwnWalk
import Derived.Outline
import Derived.Handy
import Derived.StillTailTactics
import Derived.Deep.RegionHeld3
import Derived.Deep.DeepCutAuto
import Derived.Deep.CutBlock
import Derived.Shelf.Abstract
import Derived.Lib.Strings
import Derived.Test.YtldjgcgcbcmkfaaB9
namespace Go.Proofs.Ytldjgcgcbcmkfaa.K
open Go.RowKit Go.Proofs.YtldjgcgcbcmkfaaS
set_option linter.unusedSimpArgs false
set_option linter.unusedVariables false
attribute [local go_sem] s_leq s_gtr s_geq s_maxr s_minr

attribute [local go_sem] bc_alloc2 bc_alloc3 s_alloc_drewN s_setCell_drewN bc_alloc bc_drewN bc_drew

theorem Wrts.below {w w' : World} {A : Option Addr} {n : Nat} {R : Nat → RowV} (h : Wrts w A n R) (hb : BelowC w w') : Wrts w' A n R := by
  refine ⟨h.1, fun h0 => ?_⟩
  obtain ⟨b, o, e, hlt, hc⟩ := h.2 h0
  exact ⟨b, o, e, bc_lt hb hlt, fun i hi => ⟨bc_cell (hc i hi).1 hlt w' hb, bc_cell (hc i hi).2 hlt w' hb⟩⟩
theorem Rws.below {w w' : World} {A : Option Addr} {n : Nat} {R : Nat → RowV} (h : Rws w A n R) (hb : BelowC w w') : Rws w' A n R := by
  refine ⟨h.1, fun h0 => ?_⟩
  obtain ⟨b, o, e, hlt, hc⟩ := h.2 h0
  exact ⟨b, o, e, bc_lt hb hlt, fun i hi => ⟨bc_cell (hc i hi).1 hlt w' hb, bc_cell (hc i hi).2 hlt w' hb⟩⟩
theorem Mps.below {w w' : World} {A : Option Addr} {n : Nat} {M : Nat → MpV} (h : Mps w A n M) (hb : BelowC w w') : Mps w' A n M := by
  refine ⟨h.1, fun h0 => ?_⟩
  obtain ⟨b, o, e, hlt, hc⟩ := h.2 h0
  exact ⟨b, o, e, bc_lt hb hlt, fun i hi => ⟨bc_cell (hc i hi).1 hlt w' hb, (hc i hi).2.below hb⟩⟩
theorem bc_box {w : World} {o : Obj} {q : Nat} : BelowC w ((w.alloc o).drewN q) := bc_drewN (bc_alloc (bc_refl _) _) _
def SomeBool (w : World) (e : Ending) (w' : World) : Prop := ∃ n : Bool, e = .returned (.bool n) ∧ Below w.heap.size w w'
set_option maxHeartbeats 1000000 in
theorem Heavy13 (AM : Option Addr) (nM cM : Nat) (AL : Option Addr) (nL cL : Nat) (AK : Option Addr) (nK cK : Nat) (AG : Option Addr) (nG cG : Nat)  (M : Nat → MpV) (R : Nat → RowV) (G : Nat → PrV) (w : World) (hM : Mps w AM nM M) (hL : Wrts w AL nL R) (hK : nK ≤ 9223372036854775807) (hG : Progs w AG nG G) : Calls Try.prog 16 #[.agg #[.slice AM nM cM, .slice AL nL cL, .slice AK nK cK, .slice AG nG cG]] w (SomeBool w) := by
  have HM := hid hM
  have HL := hid hL
  have HG := hid hG
  clear hM hL hG
  go_enter Try.func16, Try.ntmps16
  go_wp2_with fail
  go_quiet (first | (go_at_call 22; exact Calls.quiet_of (MapsWeight _ _ _ M _ (HM.out.below bc_box))) | (go_at_call 23; exact Calls.quiet_of (WritesWeight _ _ _ R _ (HL.out.below bc_box))) | (go_at_call 24; exact Calls.quiet_of (ProgramsWeight _ _ _ G _ (HG.out.below bc_box))))
  go_wp2_with fail
  go_returns
  exact ⟨_, rfl, bc_box⟩
set_option maxHeartbeats 1000000 in
theorem Heavy (AC : Option Addr) (nC cC : Nat) (AM : Option Addr) (nM cM : Nat) (AL : Option Addr) (nL cL : Nat) (AK : Option Addr) (nK cK : Nat) (AG : Option Addr) (nG cG : Nat)  (M : Nat → MpV) (R : Nat → RowV) (G : Nat → PrV) (w : World) (hM : Mps w AM nM M) (hL : Wrts w AL nL R) (hK : nK ≤ 9223372036854775807) (hG : Progs w AG nG G) (hC : nC ≤ 9223372036854775807) : Calls Try.prog 10 #[.agg #[.slice AC nC cC, .slice AM nM cM, .slice AL nL cL, .slice AK nK cK, .slice AG nG cG]] w (SomeBool w) := by
  have HM := hid hM
  have HL := hid hL
  have HG := hid hG
  clear hM hL hG
  go_enter Try.func10, Try.ntmps10
  go_wp2_with (go_at_call 16; refine (Heavy13 _ _ _ _ _ _ _ _ _ _ _ _ M R G _ (HM.out.below (bc_alloc (bc_refl _) _)) (HL.out.below (bc_alloc (bc_refl _) _)) hK (HG.out.below (bc_alloc (bc_refl _) _))).mono ?_; rintro e v1 ⟨hv, rfl, hb⟩)
  all_goals
    go_returns
    exact ⟨_, rfl, by first | exact bc_alloc (bc_refl _) _ | exact bc_step (bc_alloc (bc_refl _) _) hb⟩
def cfg0 : Value := .agg #[.int .i64 2, .int .i64 60, .int .i64 50, .int .i64 1, .int .i64 1]
theorem LConfig (w : World) : Calls Try.prog 12 #[] w (Ret (.agg #[.int .i64 2, .int .i64 60, .int .i64 50, .int .i64 1, .int .i64 1]) w) := by
  go_enter Try.func12, Try.ntmps12
  go_wp2_with fail
  refine bodyPost_ret (by simp [results, Try.results12, go_sem, *]; try rfl) rfl ?_
  exact ⟨rfl, by first | exact bc_alloc (bc_refl _) _ | exact bc_set (bc_alloc (bc_refl _) _) (Nat.le_refl _)⟩
theorem num' (n : Int) (w : World) : Calls Try.prog 5 #[.int .i64 n] w fun e w' => e = .returned (.int .i64 n) ∧ w = w' := by
  go_enter Try.func5, Try.ntmps5
  go_wp2
  go_returns
  exact ⟨rfl, rfl⟩
theorem no_progs (w : World) (G : Nat → PrV) : Progs w none 0 G := ⟨by simp, fun h => absurd h (by simp)⟩
theorem wakes (w : World) : Calls Try.prog 9 #[] w (Ret (.bool true) w) := by
  have h0 := bc_refl w
  go_enter Try.func9, Try.ntmps9
  go_wp2_with fail
  refine (LConfig _).mono ?_
  rintro e v1 ⟨rfl, hb⟩
  have HX : BelowC w v1 := bc_step h0 hb
  go_wp2_with fail
  refine (Bound 2 60 50 1 1 none 0 0 (fun _ => ⟨false, none, 0, 0, fun _ => ⟨0, 0, ⟨#[]⟩, ⟨#[]⟩, ⟨#[]⟩, ⟨#[]⟩, false, 0, false⟩⟩) _ (by decide) (no_progs _ _)).mono ?_
  rintro e v2 ⟨rfl, hb2⟩
  have HY : BelowC w v2 := bc_step HX hb2
  have hp : progsI 0 (fun _ => ⟨false, none, 0, 0, fun _ => ⟨0, 0, ⟨#[]⟩, ⟨#[]⟩, ⟨#[]⟩, ⟨#[]⟩, false, 0, false⟩⟩) 2 = 0 := by decide
  simp only [boundV, hp, if_pos, mostN, boundI]
  go_wp2_with (go_at_call 5; refine (num' _ _).mono ?_; rintro e _ ⟨rfl, rfl⟩)
  go_returns
  exact ⟨rfl, HY⟩
end Go.Proofs.Ytldjgcgcbcmkfaa.K
