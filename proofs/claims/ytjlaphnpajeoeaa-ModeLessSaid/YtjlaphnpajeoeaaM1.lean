/- Contracts of package mode, and ModeLess's functions: what each comes to. -/
import Derived.Test.YtjlaphnpajeoeaaProg
import Derived.Below
import Derived.WalkKit
import Derived.KernelRfl
import Derived.RowKit
import Derived.RowKit3
import Derived.Tactics
import Derived.Deep.QuietTactic
import Derived.BigQuiet
import Derived.OwnWalk
import Derived.Outline
import Derived.Handy
import Derived.Lib.Strings
import Derived.Test.YtjlaphnpajeoeaaK1
namespace Go.Proofs.Ytjlaphnpajeoeaa.K
open Go.RowKit Go.Proofs.YtjlaphnpajeoeaaS
set_option linter.unusedSimpArgs false
set_option linter.unusedVariables false
attribute [local go_sem] s_leq s_gtr s_geq s_maxr s_minr

def fitB (a b : Int) : Bool := decide (a ≠ 3 ∧ b ≠ 3 ∧ (a = 1 ∨ b = 1))
set_option maxHeartbeats 1000000 in
theorem Fit (a b : Int) (ha : 1 ≤ a ∧ a ≤ 3) (hb : 1 ≤ b ∧ b ≤ 3) (w : World) : Calls Try.prog 8 #[.int .i64 a, .int .i64 b] w fun e w' => e = .returned (.tuple #[.bool (fitB a b), .int .i64 0]) ∧ w = w' := by
  have e1 : a = 1 ∨ a = 2 ∨ a = 3 := by omega
  have e2 : b = 1 ∨ b = 2 ∨ b = 3 := by omega
  clear ha hb
  rcases e1 with rfl | rfl | rfl <;> rcases e2 with rfl | rfl | rfl
  all_goals
    go_enter Try.func8, Try.ntmps8
    go_wp2
    go_returns
    exact ⟨by simp [fitB], rfl⟩
theorem num9 (n : Int) (w : World) : Calls Try.prog 9 #[.int .i64 n] w fun e w' => e = .returned (.int .i64 n) ∧ w = w' := by
  go_enter Try.func9, Try.ntmps9
  go_wp2
  go_returns
  exact ⟨rfl, rfl⟩
set_option maxHeartbeats 1000000 in
theorem wakes10 (w : World) : Calls Try.prog 10 #[] w fun e w' => e = .returned (.bool true) ∧ w = w' := by
  go_enter Try.func10, Try.ntmps10
  go_wp2
  go_returns
  exact ⟨rfl, rfl⟩
theorem fit_sym (a b : Int) : fitB a b = fitB b a := by unfold fitB; rw [decide_eq_decide]; omega
theorem fit_less (a b d : Int) (h0 : 1 ≤ d) (h1 : d < b) (h2 : b ≤ 3) (h : fitB a b = true) : fitB a d = true := by
  unfold fitB at h ⊢; simp only [decide_eq_true_eq] at h ⊢; omega
set_option maxHeartbeats 4000000 in
theorem ModeLess (A A' : Option Addr) (n n' c c' : Nat) (w : World) : Calls Try.prog 3 #[.agg #[.slice A n c, .slice A' n' c']] w (Ret (.bool true) w) := by
  go_enter Try.func3, Try.ntmps3
  go_wp2
  go_loop [3] (fun a => ∃ i : Int, 1 ≤ i ∧ i ≤ 4 ∧ a = .int .i64 i) (fun a => (4 - intOf a).toNat)
  case atStart => exact ⟨1, by omega, by omega, rfl⟩
  case round =>
    obtain ⟨i, hi1, hi2, rfl⟩ := hrel
    by_cases hi : i ≤ 3
    · go_wp2
      go_loop [4] (fun a => ∃ j : Int, 1 ≤ j ∧ j ≤ 4 ∧ a = .int .i64 j) (fun a => (4 - intOf a).toNat)
      case atStart => exact ⟨1, by omega, by omega, rfl⟩
      case round =>
        obtain ⟨j, hj1, hj2, rfl⟩ := hrel
        by_cases hj : j ≤ 3
        · have hs := fit_sym j i
          go_wp2_with (first | (go_at_call 8; refine (Fit _ _ (by omega) (by omega) _).mono ?_; rintro e w1 ⟨rfl, rfl⟩) | (go_at_call 9; refine (num9 _ _).mono ?_; rintro e w1 ⟨rfl, rfl⟩))
          go_loop [9] (fun a => ∃ d : Int, 1 ≤ d ∧ d ≤ j ∧ a = .int .i64 d) (fun a => (4 - intOf a).toNat)
          case atStart => exact ⟨1, by omega, by omega, rfl⟩
          case round =>
            obtain ⟨d, hd1, hd2, rfl⟩ := hrel
            by_cases hd : d < j
            · cases hx : fitB i j
              · go_wp2_with (first | (go_at_call 8; refine (Fit _ _ (by omega) (by omega) _).mono ?_; rintro e w1 ⟨rfl, rfl⟩) | (go_at_call 9; refine (num9 _ _).mono ?_; rintro e w1 ⟨rfl, rfl⟩))
                go_round
                case rel => exact ⟨d + 1, by omega, by omega, rfl⟩
                case measure => simp [intOf]; omega
              · have hy := fit_less i j d hd1 hd hj hx
                go_wp2_with (first | (go_at_call 8; refine (Fit _ _ (by omega) (by omega) _).mono ?_; rintro e w1 ⟨rfl, rfl⟩) | (go_at_call 9; refine (num9 _ _).mono ?_; rintro e w1 ⟨rfl, rfl⟩))
                go_round
                case rel => exact ⟨d + 1, by omega, by omega, rfl⟩
                case measure => simp [intOf]; omega
            · go_wp2
              go_round
              case rel => exact ⟨j + 1, by omega, by omega, rfl⟩
              case measure => simp [intOf]; omega
        · go_wp2
          go_round
          case rel => exact ⟨i + 1, by omega, by omega, rfl⟩
          case measure => simp [intOf]; omega
    · go_wp2
      go_returns
      refine ⟨by simp, by go_grown⟩
end Go.Proofs.Ytjlaphnpajeoeaa.K
