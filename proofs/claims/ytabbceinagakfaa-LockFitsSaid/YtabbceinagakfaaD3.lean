/- slices.IndexFunc and ContainsFunc on locks. -/
import Derived.Test.YtabbceinagakfaaProg
import Derived.Below
import Derived.WalkKit
import Derived.KernelRfl
import Derived.RowKit
import Derived.RowKit3
import Derived.Tactics
import Derived.Deep.QuietTactic
import Derived.BigQuiet
import Derived.OwnWalk
import Derived.Outline
import Derived.Handy
import Derived.StillTailTactics
import Derived.Deep.RegionHeld3
import Derived.Deep.DeepCutAuto
import Derived.Deep.CutBlock
import Derived.Shelf.Abstract
import Derived.Lib.SmallJoins
import Derived.SliceStrings
import Derived.ArgAppend
import Derived.Deep.Slices
import Derived.ChangeSame
import Derived.Lib.Strings
import Derived.Test.YtabbceinagakfaaD2
namespace Go.Proofs.Ytabbceinagakfaa.K
open Go.RowKit Go.Proofs.YtabbceinagakfaaS
set_option linter.unusedSimpArgs false
set_option linter.unusedVariables false
attribute [local go_sem] s_leq s_gtr s_geq s_maxr s_minr
attribute [local go_sem] bc_alloc2 bc_alloc3 s_alloc_drewN s_setCell_drewN bc_alloc bc_drewN bc_drew

/-- A lock's six cells. -/
structure LkAt (w : World) (b o : Nat) (x : LockV) : Prop where
  c0 : w.cell? ⟨b, o, none⟩ = some (.int .i64 x.owner)
  c1 : w.cell? ⟨b, o + 1, none⟩ = some (.int .i64 x.table)
  c2 : w.cell? ⟨b, o + 2, none⟩ = some (.string x.lo)
  c3 : w.cell? ⟨b, o + 3, none⟩ = some (.string x.hi)
  c4 : w.cell? ⟨b, o + 4, none⟩ = some (.bool x.top)
  c5 : w.cell? ⟨b, o + 5, none⟩ = some (.int .i64 x.mode)
theorem LkAt.below {w w' : World} {b o : Nat} {x : LockV} (h : LkAt w b o x) (hb : BelowC w w') (hlt : b < w.heap.size) : LkAt w' b o x :=
  ⟨bc_cell h.c0 hlt w' hb, bc_cell h.c1 hlt w' hb, bc_cell h.c2 hlt w' hb, bc_cell h.c3 hlt w' hb, bc_cell h.c4 hlt w' hb, bc_cell h.c5 hlt w' hb⟩
/-- A slice of locks. -/
def Lks (w : World) (A : Option Addr) (n : Nat) (L : List LockV) : Prop :=
  n = L.length ∧ n ≤ 9223372036854775807 ∧ (0 < n → ∃ b o, A = some ⟨b, o, none⟩ ∧ b < w.heap.size ∧ ∀ i (h : i < L.length), LkAt w b (o + i * 6) L[i])
theorem Lks.below {w w' : World} {A : Option Addr} {n : Nat} {L : List LockV} (h : Lks w A n L) (hb : BelowC w w') : Lks w' A n L := by
  refine ⟨h.1, h.2.1, fun h0 => ?_⟩
  obtain ⟨b, o, e, hlt, hc⟩ := h.2.2 h0
  exact ⟨b, o, e, bc_lt hb hlt, fun i hi => (hc i hi).below hb hlt⟩
theorem Lks.take {w : World} {A : Option Addr} {n m : Nat} {L : List LockV} (h : Lks w A n L) (hm : m ≤ n) : Lks w A m (L.take m) := by
  obtain ⟨h1, h2, h3⟩ := h
  refine ⟨by rw [List.length_take]; omega, by omega, fun h0 => ?_⟩
  obtain ⟨b, o, e, hlt, hc⟩ := h3 (by omega)
  exact ⟨b, o, e, hlt, fun i hi => by rw [List.getElem_take]; exact hc i (by rw [List.length_take] at hi; omega)⟩
/-- The first place where p holds; -1. -/
def idxL (p : LockV → Bool) (L : List LockV) : Int := match L.findIdx? p with | some i => i | none => -1
theorem idxL_hit {p : LockV → Bool} {L : List LockV} {k : Nat} (hk : k < L.length) (hp : p L[k] = true) (h : ∀ j (hj : j < k), p (L[j]'(by omega)) = false) : idxL p L = k := by
  have : L.findIdx? p = some k := by
    rw [List.findIdx?_eq_some_iff_getElem]
    exact ⟨hk, hp, fun j hj => by simp [h j hj]⟩
  simp [idxL, this]
theorem idxL_miss {p : LockV → Bool} {L : List LockV} (h : ∀ j (hj : j < L.length), p L[j] = false) : idxL p L = -1 := by
  have : L.findIdx? p = none := by
    rw [List.findIdx?_eq_none_iff]
    intro x hx
    obtain ⟨j, hj, rfl⟩ := List.mem_iff_getElem.1 hx
    exact h j hj
  simp [idxL, this]
theorem any_idxL (p : LockV → Bool) (L : List LockV) : L.any p = decide (0 ≤ idxL p L) := by
  cases h : L.findIdx? p with
  | none =>
    have h2 := List.findIdx?_eq_none_iff.1 h
    have : L.any p = false := by rw [List.any_eq_false]; intro x hx; simp [h2 x hx]
    simp [idxL, h, this]
  | some k =>
    obtain ⟨hk, hp, _⟩ := List.findIdx?_eq_some_iff_getElem.1 h
    have : L.any p = true := List.any_eq_true.2 ⟨L[k], List.getElem_mem hk, hp⟩
    simp [idxL, h, this]
theorem idxL_le (p : LockV → Bool) (L : List LockV) : -1 ≤ idxL p L ∧ idxL p L < L.length + 1 := by
  cases h : L.findIdx? p with
  | none => simp [idxL, h]; omega
  | some k =>
    obtain ⟨hk, _, _⟩ := List.findIdx?_eq_some_iff_getElem.1 h
    simp [idxL, h]; omega
theorem ret_intq {k : IntKind} {a b : Int} (h : a = b) : Ending.returned (.int k a) = .returned (.int k b) := by rw [h]
/-- A function on locks that hands back a bool. -/
def Pred (p : LockV → Bool) (g : Nat) (lb : Array Value) (w : World) : Prop := ∀ (x : LockV) (W : World), BelowC w W → Calls Try.prog g (#[x.val] ++ lb) W (Ret (.bool (p x)) W)
set_option maxHeartbeats 2000000 in
theorem IndexFunc (p : LockV → Bool) (g : Nat) (lb : Array Value) (eg : ∀ args w, (callFunc g args).run Try.prog w = .ok (.enter g args) w) (A : Option Addr) (n c : Nat) (L : List LockV) (w : World) (h : Lks w A n L) (hp : Pred p g lb w) :
    Calls Try.prog 54 #[.slice A n c, .func (.func g) #[] lb] w (Ret (.int .i64 (idxL p L)) w) := by
  have hn := h.2.1
  have H := hid h
  have HP := hid hp
  clear h hp
  go_enter Try.func54, Try.ntmps54
  go_wp2_with fail
  go_loopw [5, 8] (fun _ v wr => ∃ k : Nat, k ≤ n ∧ v = .int .i64 k ∧ BelowC w wr ∧ Hid (∀ j (hj : j < L.length), j < k → p L[j] = false)) (fun _ v _ => n - (intOf v).toNat)
  case atStart => exact ⟨0, by omega, rfl, bc_refl w, hid (fun j _ hj => absurd hj (by omega))⟩
  case round =>
    obtain ⟨k, hk, rfl, HK, HA⟩ := hrel
    rename World => wK
    by_cases hlt : k < n
    · obtain ⟨b, o, rfl, hb0, hc⟩ := H.out.2.2 (by omega)
      have hkl : k < L.length := by have := H.out.1; omega
      have HKL := hid hkl
      have hx := (hc k hkl).below HK hb0
      have HQ : Hid (∀ v, p L[k] = v → p (L[k]'HKL.out) = v) := hid (fun _ e => e)
      generalize hy : L[k] = y at hx
      have q0 := hx.c0
      have q1 := hx.c1
      have q2 := hx.c2
      have q3 := hx.c3
      have q4 := hx.c4
      have q5 := hx.c5
      have HY := hid hy
      clear hx hc hy hkl HQ
      have hcall := HP.out y wK HK
      simp only [LockV.val] at hcall
      cases hq : p y with
      | true =>
        rw [hq] at hcall
        go_wp2_with (go_at_fn g; refine hcall.mono ?_; rintro e v1 ⟨rfl, hb⟩)
        go_returns
        exact ⟨ret_intq (idxL_hit HKL.out ((congrArg p HY.out).trans hq) (fun j hj => HA.out j _ hj)).symm, bc_step HK hb⟩
      | false =>
        rw [hq] at hcall
        go_wp2_with (go_at_fn g; refine hcall.mono ?_; rintro e v1 ⟨rfl, hb⟩)
        go_roundw
        case rel =>
          refine ⟨k + 1, by omega, by go_num, bc_step HK hb, hid fun j hjl hj => ?_⟩
          by_cases e : j = k
          · subst e; exact (congrArg p HY.out).trans hq
          · exact HA.out j hjl (by omega)
        case measure => simp [intOf]; omega
    · have HN := hid (idxL_miss (p := p) (L := L) (fun j hj => HA.out j hj (by have := H.out.1; omega)))
      go_wp2_with fail
      go_returns
      exact ⟨ret_intq HN.out.symm, HK⟩
set_option maxHeartbeats 2000000 in
theorem ContainsFunc (p : LockV → Bool) (g : Nat) (lb : Array Value) (eg : ∀ args w, (callFunc g args).run Try.prog w = .ok (.enter g args) w) (A : Option Addr) (n c : Nat) (L : List LockV) (w : World) (h : Lks w A n L) (hp : Pred p g lb w) :
    Calls Try.prog 45 #[.slice A n c, .func (.func g) #[] lb] w (Ret (.bool (L.any p)) w) := by
  rw [any_idxL]
  go_enter Try.func45, Try.ntmps45
  go_wp2_with (go_at_call 54; refine (IndexFunc p g lb eg A n c L _ h hp).mono ?_; rintro e v1 ⟨rfl, hb⟩)
  go_returns
  exact ⟨by simp, hb⟩
end Go.Proofs.Ytabbceinagakfaa.K
