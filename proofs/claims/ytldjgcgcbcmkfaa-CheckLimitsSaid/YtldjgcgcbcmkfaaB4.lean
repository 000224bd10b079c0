/- Contracts of packages key and plan: what each comes to. -/
import Derived.Test.YtldjgcgcbcmkfaaProg
import Derived.Below
import Derived.WalkKit
import Derived.KernelRfl
import Derived.RowKit
import Derived.RowKit3
import Derived.Tactics
import Derived.Deep.QuietTactic
import Derived.BigQuiet
import Derived.OwnWalk
import Derived.Outline
import Derived.Handy
import Derived.StillTailTactics
import Derived.Deep.RegionHeld3
import Derived.Deep.DeepCutAuto
import Derived.Deep.CutBlock
import Derived.Shelf.Abstract
import Derived.Lib.Strings
import Derived.Test.YtldjgcgcbcmkfaaB3
namespace Go.Proofs.Ytldjgcgcbcmkfaa.K
open Go.RowKit Go.Proofs.YtldjgcgcbcmkfaaS
set_option linter.unusedSimpArgs false
set_option linter.unusedVariables false
attribute [local go_sem] s_leq s_gtr s_geq s_maxr s_minr

attribute [local go_sem] bc_alloc2 bc_alloc3 s_alloc_drewN s_setCell_drewN bc_alloc bc_drewN bc_drew

theorem idx_def {p : Prop} (h : p) : p := h
/-- The first place below n where p holds; -1. -/
def idx (p : Nat → Bool) (n : Nat) : Int := match (List.range n).find? p with | some i => i | none => -1
def anyB (p : Nat → Bool) (n : Nat) : Bool := (List.range n).any p
theorem idx_hit {p : Nat → Bool} {n k : Nat} (hk : k < n) (hp : p k = true) (h : ∀ j, j < k → p j = false) : idx p n = k := by
  have : (List.range n).find? p = some k := by
    rw [List.find?_range_eq_some]
    exact ⟨hp, by simpa using hk, fun j hj => by simp [h j hj]⟩
  simp [idx, this]
theorem idx_miss {p : Nat → Bool} {n : Nat} (h : ∀ j, j < n → p j = false) : idx p n = -1 := by
  have : (List.range n).find? p = none := by
    rw [List.find?_eq_none]
    intro x hx
    simp [h x (List.mem_range.1 hx)]
  simp [idx, this]
theorem anyB_iff {p : Nat → Bool} {n : Nat} : anyB p n = true ↔ ∃ i, i < n ∧ p i = true := by simp [anyB]
theorem anyB_idx (p : Nat → Bool) (n : Nat) : anyB p n = decide (0 ≤ idx p n) := by
  cases h : (List.range n).find? p with
  | none => simp [anyB, idx, h]; simpa using h
  | some k =>
    have h2 := List.find?_range_eq_some.1 h
    have : anyB p n = true := anyB_iff.2 ⟨k, by simpa using h2.2.1, h2.1⟩
    simp [idx, h, this]
theorem ret_intq {k : IntKind} {a b : Int} (h : a = b) : Ending.returned (.int k a) = .returned (.int k b) := by rw [h]
/-- An op's nine cells. -/
structure OpAt (w : World) (b o : Nat) (x : OpV) : Prop where
  c0 : w.cell? ⟨b, o, none⟩ = some (.int .i64 x.kind)
  c1 : w.cell? ⟨b, o + 1, none⟩ = some (.int .i64 x.table)
  c2 : w.cell? ⟨b, o + 2, none⟩ = some (.string x.key)
  c3 : w.cell? ⟨b, o + 3, none⟩ = some (.string x.value)
  c4 : w.cell? ⟨b, o + 4, none⟩ = some (.string x.lo)
  c5 : w.cell? ⟨b, o + 5, none⟩ = some (.string x.hi)
  c6 : w.cell? ⟨b, o + 6, none⟩ = some (.bool x.top)
  c7 : w.cell? ⟨b, o + 7, none⟩ = some (.int .i64 x.n)
  c8 : w.cell? ⟨b, o + 8, none⟩ = some (.bool x.back)

theorem OpAt.below {w w' : World} {b o : Nat} {x : OpV} (h : OpAt w b o x) (hb : BelowC w w') (hlt : b < w.heap.size) : OpAt w' b o x :=
  ⟨bc_cell h.c0 hlt w' hb, bc_cell h.c1 hlt w' hb, bc_cell h.c2 hlt w' hb, bc_cell h.c3 hlt w' hb, bc_cell h.c4 hlt w' hb, bc_cell h.c5 hlt w' hb, bc_cell h.c6 hlt w' hb, bc_cell h.c7 hlt w' hb, bc_cell h.c8 hlt w' hb⟩
/-- A slice of ops. -/
def Ops (w : World) (A : Option Addr) (n : Nat) (f : Nat → OpV) : Prop :=
  n ≤ 9223372036854775807 ∧ (0 < n → ∃ b o, A = some ⟨b, o, none⟩ ∧ b < w.heap.size ∧ ∀ i, i < n → OpAt w b (o + i * 9) (f i))
theorem Ops.below {w w' : World} {A : Option Addr} {n : Nat} {f : Nat → OpV} (h : Ops w A n f) (hb : BelowC w w') : Ops w' A n f := by
  refine ⟨h.1, fun h0 => ?_⟩
  obtain ⟨b, o, e, hlt, hc⟩ := h.2 h0
  exact ⟨b, o, e, bc_lt hb hlt, fun i hi => (hc i hi).below hb hlt⟩
/-- A function on ops that hands back a bool. -/
def Pred (p : OpV → Bool) (g : Nat) (lb : Array Value) (w : World) : Prop := ∀ (x : OpV) (W : World), BelowC w W → Calls Try.prog g (#[x.val] ++ lb) W (Ret (.bool (p x)) W)
set_option maxHeartbeats 2000000 in
theorem IndexFunc (p : OpV → Bool) (g : Nat) (lb : Array Value) (eg : ∀ args w, (callFunc g args).run Try.prog w = .ok (.enter g args) w) (A : Option Addr) (n c : Nat) (f : Nat → OpV) (w : World) (h : Ops w A n f) (hp : Pred p g lb w) :
    Calls Try.prog 26 #[.slice A n c, .func (.func g) #[] lb] w (Ret (.int .i64 (idx (fun i => p (f i)) n)) w) := by
  have hn := h.1
  have H := hid h
  have HP := hid hp
  clear h hp
  go_enter Try.func26, Try.ntmps26
  go_wp2_with fail
  go_loopw [5, 8] (fun _ v wr => ∃ k : Nat, k ≤ n ∧ v = .int .i64 k ∧ BelowC w wr ∧ Hid (∀ j, j < k → p (f j) = false)) (fun _ v _ => n - (intOf v).toNat)
  case atStart => exact ⟨0, by omega, rfl, bc_refl w, hid (fun j hj => absurd hj (by omega))⟩
  case round =>
    obtain ⟨k, hk, rfl, HK, HA⟩ := hrel
    rename World => wK
    by_cases hlt : k < n
    · obtain ⟨b, o, rfl, hb0, hc⟩ := H.out.2 (by omega)
      have hx := (hc k hlt).below HK hb0
      have q0 := hx.c0
      have q1 := hx.c1
      have q2 := hx.c2
      have q3 := hx.c3
      have q4 := hx.c4
      have q5 := hx.c5
      have q6 := hx.c6
      have q7 := hx.c7
      have q8 := hx.c8
      clear hx hc
      have hcall := HP.out (f k) wK HK
      simp only [OpV.val] at hcall
      cases hq : p (f k) with
      | true =>
        rw [hq] at hcall
        go_wp2_with (go_at_fn g; refine hcall.mono ?_; rintro e v1 ⟨rfl, hb⟩)
        go_returns
        exact ⟨ret_intq (idx_hit hlt hq HA.out).symm, bc_step HK hb⟩
      | false =>
        rw [hq] at hcall
        go_wp2_with (go_at_fn g; refine hcall.mono ?_; rintro e v1 ⟨rfl, hb⟩)
        go_roundw
        case rel =>
          refine ⟨k + 1, by omega, by go_num, bc_step HK hb, hid fun j hj => ?_⟩
          by_cases e : j = k
          · subst e; exact hq
          · exact HA.out j (by omega)
        case measure => simp [intOf]; omega
    · have e : k = n := by omega
      subst e
      go_wp2_with fail
      go_returns
      exact ⟨ret_intq (idx_miss HA.out).symm, HK⟩
set_option maxHeartbeats 2000000 in
theorem ContainsFunc (p : OpV → Bool) (g : Nat) (lb : Array Value) (eg : ∀ args w, (callFunc g args).run Try.prog w = .ok (.enter g args) w) (A : Option Addr) (n c : Nat) (f : Nat → OpV) (w : World) (h : Ops w A n f) (hp : Pred p g lb w) :
    Calls Try.prog 19 #[.slice A n c, .func (.func g) #[] lb] w (Ret (.bool (anyB (fun i => p (f i)) n)) w) := by
  rw [anyB_idx]
  go_enter Try.func19, Try.ntmps19
  go_wp2_with (go_at_call 26; refine (IndexFunc p g lb eg A n c f _ h hp).mono ?_; rintro e v1 ⟨rfl, hb⟩)
  go_returns
  exact ⟨by simp, hb⟩
end Go.Proofs.Ytldjgcgcbcmkfaa.K
