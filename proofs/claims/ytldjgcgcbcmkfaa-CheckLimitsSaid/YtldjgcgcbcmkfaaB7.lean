/- Contracts of packages key and plan: what each comes to. -/
import Derived.Test.YtldjgcgcbcmkfaaProg
import Derived.Below
import Derived.WalkKit
import Derived.KernelRfl
import Derived.RowKit
import Derived.RowKit3
import Derived.Tactics
import Derived.Deep.QuietTactic
import Derived.BigQuiet
import Derived.OwnWalk
import Derived.Outline
import Derived.Handy
import Derived.StillTailTactics
import Derived.Deep.RegionHeld3
import Derived.Deep.DeepCutAuto
import Derived.Deep.CutBlock
import Derived.Shelf.Abstract
import Derived.Lib.Strings
import Derived.Test.YtldjgcgcbcmkfaaB6
namespace Go.Proofs.Ytldjgcgcbcmkfaa.K
open Go.RowKit Go.Proofs.YtldjgcgcbcmkfaaS
set_option linter.unusedSimpArgs false
set_option linter.unusedVariables false
attribute [local go_sem] s_leq s_gtr s_geq s_maxr s_minr

attribute [local go_sem] bc_alloc2 bc_alloc3 s_alloc_drewN s_setCell_drewN bc_alloc bc_drewN bc_drew

def roomI (kind : Int) : Int := bif decide (3 ≤ kind) && decide (kind ≤ 5) then 1 else 0
def heldI (kind : Int) : Int := bif decide (1 ≤ kind) && decide (kind ≤ 7) then 1 + roomI kind else 0
def opsC (f : Nat → OpV) : Nat → Int
  | 0 => 0
  | j + 1 => opsC f j + heldI (f j).kind
def oneC (g : PrV) (j : Nat) : Int := bif g.only then 0 else opsC g.f j
def costsI (G : Nat → PrV) : Nat → Int
  | 0 => 0
  | i + 1 => costsI G i + oneC (G i) (G i).n
theorem room_le (k : Int) : 0 ≤ roomI k ∧ roomI k ≤ 1 := by unfold roomI; cases (decide (3 ≤ k) && decide (k ≤ 5)) <;> simp
theorem held_le (k : Int) : 0 ≤ heldI k ∧ heldI k ≤ 2 := by have := room_le k; unfold heldI; cases (decide (1 ≤ k) && decide (k ≤ 7)) <;> simp <;> omega
theorem opsC_le (f : Nat → OpV) : ∀ j, 0 ≤ opsC f j ∧ opsC f j ≤ 2 * j
  | 0 => by simp [opsC]
  | j + 1 => by have := opsC_le f j; have := held_le (f j).kind; simp only [opsC]; omega
theorem oneC_le (g : PrV) (j : Nat) : 0 ≤ oneC g j ∧ oneC g j ≤ 2 * j := by have := opsC_le g.f j; unfold oneC; cases g.only <;> simp <;> omega
theorem costsI_le (G : Nat → PrV) (n : Nat) (hG : ∀ i, i < n → (G i).n ≤ 12) : ∀ i, i ≤ n → 0 ≤ costsI G i ∧ costsI G i ≤ 24 * i
  | 0, _ => by simp [costsI]
  | i + 1, h => by have := costsI_le G n hG i (by omega); have := oneC_le (G i) (G i).n; have := hG i (by omega); simp only [costsI]; omega
theorem held_room (kind table : Int) (key value lo hi : ByteArray) (top : Bool) (n : Int) (back : Bool) (w : World) : True := trivial
set_option maxHeartbeats 1000000 in
theorem room (kind table : Int) (key value lo hi : ByteArray) (top : Bool) (n : Int) (back : Bool) (w : World) :
    Calls Try.prog 25 #[opv kind table key value lo hi top n back] w (Ret (.int .i64 (roomI kind)) w) := by
  have HB := hid (Below.refl w.heap.size w)
  go_enter Try.func25, Try.ntmps25
  go_wp2
  all_goals
    go_returns
    refine ⟨?_, ?_⟩
    · by_cases g1 : 3 ≤ kind <;> by_cases g2 : kind ≤ 5 <;> simp [roomI, g1, g2] <;> first | omega | skip
      try omega
    · repeat (first | exact HB.out | exact Below.refl _ _ | apply below_alloc | apply below_drewN | apply below_drew | refine below_set ?_ (by omega))

set_option maxHeartbeats 2000000 in
theorem held (kind table : Int) (key value lo hi : ByteArray) (top : Bool) (n : Int) (back : Bool) (w : World) : Calls Try.prog 18 #[opv kind table key value lo hi top n back] w (Ret (.int .i64 (heldI kind)) w) := by
  have h0 : BelowC w w := bc_refl w
  have hr := room_le kind
  go_enter Try.func18, Try.ntmps18
  go_wp2_with (go_at_call 25; (with_reducible refine (room _ _ _ _ _ _ _ _ _ _).mono ?_); rintro e v1 ⟨rfl, hb⟩; have HX : BelowC w v1 := bc_step (by repeat (with_reducible first | assumption | exact bc_refl _ | apply bc_alloc | apply bc_drewN | apply bc_drew)) hb; clear hb)
  all_goals
    go_returns
    refine ⟨?_, by first | assumption | exact bc_alloc h0 _⟩
    by_cases g1 : 1 ≤ kind <;> by_cases g2 : kind ≤ 7 <;> simp [heldI, g1, g2] <;> first | omega | skip
theorem opsC_step (f : Nat → OpV) (j : Nat) : opsC f (j + 1) = opsC f j + heldI (f j).kind := rfl
theorem costsI_step (G : Nat → PrV) (i : Nat) : costsI G (i + 1) = costsI G i + oneC (G i) (G i).n := rfl
set_option maxHeartbeats 4000000 in
theorem costs (A : Option Addr) (n c : Nat) (G : Nat → PrV) (w : World) (h : Progs w A n G) (h6 : n ≤ 6) (h12 : ∀ i, i < n → (G i).n ≤ 12) :
    Calls Try.prog 17 #[.slice A n c, .func (.func 18) #[] #[]] w (Ret (.int .i64 (costsI G n)) w) := by
  have hn := h.1
  have H := hid h
  have H12 := hid h12
  clear h h12
  have h0 : BelowC w w := bc_refl w
  go_enter Try.func17, Try.ntmps17
  go_wp2_with fail
  go_loopw [5, 7, 12] (fun x _ y wr => ∃ i : Nat, i ≤ n ∧ x = .int .i64 (costsI G i) ∧ y = .int .i64 i ∧ BelowC w wr) (fun _ _ y _ => n - (intOf y).toNat)
  case atStart => exact ⟨0, by omega, rfl, rfl, h0⟩
  case round =>
    obtain ⟨i, hi, rfl, rfl, HI⟩ := hrel
    rename World => wI
    by_cases hlt : i < n
    · obtain ⟨b, o, rfl, hb0, hc⟩ := H.out.2 (by omega)
      have hx := (hc i hlt).below HI hb0
      have hgn := H12.out i hlt
      have hci := costsI_le G n H12.out i (by omega)
      have hst := hid (costsI_step G i)
      clear hc
      generalize G i = gi at hx hgn hst
      obtain ⟨only, A', n', c', f'⟩ := gi
      have q0 := hx.c0
      have q1 := hx.c1
      have HO := hid hx.ops
      have hone := oneC_le ⟨only, A', n', c', f'⟩ n'
      have hm1 := HO.out.1
      simp only at q0 q1 HO hgn hone hm1
      clear hx
      go_wp2_with fail
      obtain ⟨wB, hB, hBB, r0⟩ : ∃ wB : World, BelowC wI wB ∧ BelowC wB (wI.alloc (.cells #[.bool only, .slice A' n' c'] 40)) ∧ (∀ w', BelowC wB w' → w'.cell? ⟨wI.heap.size, 0, none⟩ = some (.bool only)) := ⟨_, bc_alloc (bc_refl _) _, bc_refl _, bc_cell (by go_simp) (by simp)⟩
      go_loopw [5, 9, 19] (fun x _ y wr => ∃ j : Nat, j ≤ n' ∧ x = .int .i64 (costsI G i + oneC ⟨only, A', n', c', f'⟩ j) ∧ y = .int .i64 j ∧ BelowC wB wr) (fun _ _ y _ => n' - (intOf y).toNat)
      case atStart => exact ⟨0, by omega, by simp [oneC, opsC], rfl, hBB⟩
      case round =>
        clear hBB
        obtain ⟨j, hj, rfl, rfl, HJ⟩ := hrel
        rename World => wJ
        by_cases hlt2 : j < n'
        · obtain ⟨b2, o2, rfl, hb2, hc2⟩ := HO.out.2 (by omega)
          have hy := (hc2 j hlt2).below (bc_trans hB HJ) hb2
          have s0 := hy.c0
          have s1 := hy.c1
          have s2 := hy.c2
          have s3 := hy.c3
          have s4 := hy.c4
          have s5 := hy.c5
          have s6 := hy.c6
          have s7 := hy.c7
          have s8 := hy.c8
          clear hy hc2
          have hh := held_le (f' j).kind
          have ho := opsC_le f' j
          have hj1 := oneC_le ⟨only, some ⟨b2, o2, none⟩, n', c', f'⟩ j
          have hsp := hid (opsC_step f' j)
          cases only
          all_goals
            go_wp2_with (go_at_call 18; (with_reducible refine (held _ _ _ _ _ _ _ _ _ _).mono ?_); rintro e v1 ⟨rfl, hb⟩; have HX : BelowC wB v1 := bc_step (by repeat (with_reducible first | assumption | exact bc_refl _ | apply bc_alloc | apply bc_drewN | apply bc_drew)) hb; clear hb)
            go_roundw
            case rel => exact ⟨j + 1, by omega, by simp [oneC, opsC]; try omega, by go_num, by first | assumption | exact bc_alloc HJ _⟩
            case measure => simp [intOf]; omega
        · have e : j = n' := by omega
          go_wp2_with fail
          go_roundw
          case rel => exact ⟨i + 1, by omega, by rw [hst.out, e], by go_num, bc_trans HI (bc_trans hB HJ)⟩
          case measure => simp [intOf]; omega
    · go_wp2_with fail
      go_returns
      exact ⟨by rw [show i = n by omega]; rfl, HI⟩
end Go.Proofs.Ytldjgcgcbcmkfaa.K
