/- rising, forWhom. -/
import Derived.Test.YtmokjaelgfikeaaProg
import Derived.Below
import Derived.WalkKit
import Derived.KernelRfl
import Derived.RowKit
import Derived.RowKit3
import Derived.Tactics
import Derived.Deep.QuietTactic
import Derived.BigQuiet
import Derived.OwnWalk
import Derived.Outline
import Derived.Handy
import Derived.StillTailTactics
import Derived.Deep.RegionHeld3
import Derived.Deep.DeepCutAuto
import Derived.Deep.CutBlock
import Derived.Shelf.Abstract
import Derived.Shelf.SlSortCmp.QuietGrown
import Derived.Lib.SliceRun
import Derived.Sort.OwnSortedInts
import Derived.Lib.SlicesCompact
import Derived.Lib.SmallJoins
import Derived.SliceStrings
import Derived.ArgAppend
import Derived.Deep.AppendSrc
import Derived.Deep.Upon
import Derived.Deep.Slices
import Derived.ChangeSame
import Derived.Maps.OwnSet
import Derived.Maps.Range
import Derived.Maps.OwnOps
import Derived.Lib.SlKeysI
import Derived.Maps.Views
import Derived.Test.YtmokjaelgfikeaaC3
namespace Go.Proofs.Ytmokjaelgfikeaa.K
open Go.RowKit
set_option linter.unusedSimpArgs false
set_option linter.unusedVariables false
attribute [local go_sem] bc_alloc2 bc_alloc3 s_alloc_drewN s_setCell_drewN bc_alloc bc_drewN bc_drew

/-- Numbers that rise from 0 on. -/
def Rises (l : List Int) : Prop := (∀ z ∈ l, 0 ≤ z) ∧ l.Pairwise (· < ·)
instance instDecRises (l : List Int) : Decidable (Rises l) := by unfold Rises; infer_instance
theorem rises_step {l : List Int} {k : Nat} (hk : k < l.length) (h : Rises (l.take k)) (h0 : 0 ≤ l[k]) (h1 : ∀ (h : 0 < k), l[k - 1]'(by omega) < l[k]) : Rises (l.take (k + 1)) := by
  obtain ⟨a, b⟩ := h
  rw [List.pairwise_iff_getElem] at b
  refine ⟨fun z hz => ?_, ?_⟩
  · rw [take_succ' hk] at hz
    rcases List.mem_append.1 hz with h | h
    · exact a z h
    · rw [List.mem_singleton.1 h]; exact h0
  · rw [List.pairwise_iff_getElem]
    intro i j hi hj hij
    rw [List.length_take] at hi hj
    rw [List.getElem_take, List.getElem_take]
    have hb : ∀ i j (hi : i < k) (hj : j < k), i < j → l[i] < l[j] := fun i j hi hj hij => by
      have := b i j (by rw [List.length_take]; omega) (by rw [List.length_take]; omega) hij
      rw [List.getElem_take, List.getElem_take] at this
      exact this
    by_cases hjk : j = k
    · subst hjk
      by_cases e : i = j - 1
      · subst e; exact h1 (by omega)
      · exact Int.lt_trans (hb i (j - 1) (by omega) (by omega) (by omega)) (h1 (by omega))
    · exact hb i j (by omega) (by omega) hij
theorem rises_ge {l : List Int} (h : Rises l) {k : Nat} (hk : k < l.length) : 0 ≤ l[k] := h.1 _ (List.getElem_mem hk)
theorem rises_lt {l : List Int} (h : Rises l) {k : Nat} (hk : k < l.length) (h0 : 0 < k) : l[k - 1] < l[k] := (List.pairwise_iff_getElem.1 h.2) (k - 1) k (by omega) hk (by omega)
set_option maxHeartbeats 2000000 in
theorem Rising (A : Option Addr) (n c : Nat) (l : List Int) (w : World) (h : Ns w A n l) : Calls Try.prog 28 #[.slice A n c] w (Ret (.bool (decide (Rises l))) w) := by
  have hn := h.2.1
  have H := hid h
  have HL := hid h.1
  clear h
  go_enter Try.func28, Try.ntmps28
  go_wp2_with fail
  go_loopw [3, 4, 7] (fun _ _ v wr => ∃ k : Nat, k ≤ n ∧ v = .int .i64 k ∧ BelowC w wr ∧ Hid (Rises (l.take k))) (fun _ _ v _ => n - (intOf v).toNat)
  case atStart => exact ⟨0, by omega, rfl, bc_refl w, hid ⟨by simp, by simp⟩⟩
  case round =>
    obtain ⟨k, hk, rfl, HK, HR⟩ := hrel
    rename World => wK
    by_cases hlt : k < n
    · obtain ⟨b, o, rfl, hb0, hc⟩ := H.out.2.2 (by omega)
      have hkl : k < l.length := by have := HL.out; omega
      have HKL := hid hkl
      have hx := bc_cell (hc k hkl) hb0 _ HK
      have i1 : (k : Int) < (n : Int) := by omega
      have HS := hid (rises_step hkl HR.out)
      have HG := hid (fun h : Rises l => rises_ge h hkl)
      have HT := hid (fun h : Rises l => rises_lt h hkl)
      by_cases h0 : 0 < k
      · have hy := bc_cell (hc (k - 1) (by omega)) hb0 _ HK
        have d0 : decide ((0 : Int) < (k : Int)) = true := decide_eq_true (by omega)
        have ek : ((k - 1 : Nat) : Int) = (k : Int) - 1 := by omega
        have HS1 : Hid (0 ≤ l[k] → l[k - 1]'(by omega) < l[k] → Rises (l.take (k + 1))) := hid (fun a b => HS.out a (fun _ => b))
        have HT1 : Hid (Rises l → l[k - 1]'(by omega) < l[k]) := hid (fun h => HT.out h h0)
        clear HS HT
        generalize l[k] = z at hx HS1 HG HT1
        generalize l[k - 1]'(by omega) = y at hy HS1 HT1
        have j0 : 0 ≤ (k : Int) - 1 := by omega
        have j1 : (k : Int) - 1 < (n : Int) := by omega
        clear hc hkl
        by_cases hz : z < 0
        · have dz : decide (z < 0) = true := decide_eq_true hz
          have HF : Hid (decide (Rises l) = false) := hid (decide_eq_false fun h => by have := HG.out h; omega)
          go_wp2_with fail
          go_returns
          exact ⟨by first | (rw [HF.out]; rfl) | rw [HF.out], HK⟩
        · have dz : decide (z < 0) = false := decide_eq_false hz
          by_cases hy2 : z ≤ y
          · have dy : decide (z ≤ y) = true := decide_eq_true hy2
            have HF : Hid (decide (Rises l) = false) := hid (decide_eq_false fun h => by have := HT1.out h; omega)
            go_wp2_with fail
            go_returns
            exact ⟨by first | (rw [HF.out]; rfl) | rw [HF.out], HK⟩
          · have dy : decide (z ≤ y) = false := decide_eq_false hy2
            go_wp2_with fail
            go_roundw
            case rel => exact ⟨k + 1, by omega, by go_num, HK, hid (HS1.out (by omega) (by omega))⟩
            case measure => simp [intOf]; omega
      · have d0 : decide ((0 : Int) < (k : Int)) = false := decide_eq_false (by omega)
        have HS1 : Hid (0 ≤ l[k] → Rises (l.take (k + 1))) := hid (fun a => HS.out a (fun h => absurd h h0))
        clear HS HT
        generalize l[k] = z at hx HS1 HG
        clear hc hkl
        by_cases hz : z < 0
        · have dz : decide (z < 0) = true := decide_eq_true hz
          have HF : Hid (decide (Rises l) = false) := hid (decide_eq_false fun h => by have := HG.out h; omega)
          go_wp2_with fail
          go_returns
          exact ⟨by first | (rw [HF.out]; rfl) | rw [HF.out], HK⟩
        · have dz : decide (z < 0) = false := decide_eq_false hz
          go_wp2_with fail
          go_roundw
          case rel => exact ⟨k + 1, by omega, by go_num, HK, hid (HS1.out (by omega))⟩
          case measure => simp [intOf]; omega
    · have HF : Hid (decide (Rises l) = true) := hid (decide_eq_true (by have := HR.out; rw [List.take_of_length_le (by have := HL.out; omega)] at this; exact this))
      go_wp2_with fail
      go_returns
      exact ⟨by first | (rw [HF.out]; rfl) | rw [HF.out], HK⟩
/-- One that waits: who, for whom. -/
structure WaitV where (o : Int) (A : Option Addr) (n c : Nat) (f : List Int)
structure WtAt (w : World) (b o : Nat) (x : WaitV) : Prop where
  c0 : w.cell? ⟨b, o, none⟩ = some (.int .i64 x.o)
  c1 : w.cell? ⟨b, o + 1, none⟩ = some (.slice x.A x.n x.c)
  ns : Ns w x.A x.n x.f
theorem WtAt.below {w w' : World} {b o : Nat} {x : WaitV} (h : WtAt w b o x) (hb : BelowC w w') (hlt : b < w.heap.size) : WtAt w' b o x :=
  ⟨bc_cell h.c0 hlt w' hb, bc_cell h.c1 hlt w' hb, h.ns.below hb⟩
/-- A slice of waits. -/
def Wts (w : World) (A : Option Addr) (n : Nat) (L : List WaitV) : Prop :=
  n = L.length ∧ n ≤ 9223372036854775807 ∧ (0 < n → ∃ b o, A = some ⟨b, o, none⟩ ∧ b < w.heap.size ∧ ∀ i (h : i < L.length), WtAt w b (o + i * 2) L[i])
theorem Wts.below {w w' : World} {A : Option Addr} {n : Nat} {L : List WaitV} (h : Wts w A n L) (hb : BelowC w w') : Wts w' A n L := by
  refine ⟨h.1, h.2.1, fun h0 => ?_⟩
  obtain ⟨b, o, e, hlt, hc⟩ := h.2.2 h0
  exact ⟨b, o, e, bc_lt hb hlt, fun i hi => (hc i hi).below hb hlt⟩
def MayW (L : List WaitV) : Prop := (∀ x ∈ L, Rises x.f ∧ x.o ∉ x.f) ∧ L.length ≤ 6 ∧ Rises (L.map (·.o))
instance instDecMayW (L : List WaitV) : Decidable (MayW L) := by unfold MayW; infer_instance
def whomL (L : List WaitV) (o : Int) : List Int := match L.find? (fun x => x.o == o) with | some x => x.f | none => []
theorem whom_hit {L : List WaitV} {o : Int} {k : Nat} (hk : k < L.length) (h : (L[k].o == o) = true) (hl : ∀ j (hj : j < L.length), j < k → (L[j].o == o) = false) : whomL L o = L[k].f := by
  have : L.find? (fun x => x.o == o) = some L[k] := by
    rw [List.find?_eq_some_iff_getElem]
    exact ⟨h, k, hk, rfl, fun j hj => by have := hl j (by omega) hj; simpa using this⟩
  rw [whomL, this]
theorem whom_miss {L : List WaitV} {o : Int} (h : ∀ j (hj : j < L.length), (L[j].o == o) = false) : whomL L o = [] := by
  have : L.find? (fun x => x.o == o) = none := by
    rw [List.find?_eq_none]
    intro x hx
    obtain ⟨j, hj, rfl⟩ := List.mem_iff_getElem.1 hx
    simp [h j hj]
  rw [whomL, this]
theorem take_succW {L : List WaitV} {k : Nat} (h : k < L.length) : (L.take (k + 1)).map (·.o) = (L.take k).map (·.o) ++ [L[k].o] := by
  rw [List.take_add_one, List.getElem?_eq_getElem h, Option.toList_some, List.map_append, List.map_singleton]
theorem one_int (w : World) (z : Int) : (w.alloc (.cells #[.int .i64 z] 3)).cell? ⟨w.heap.size, 0, none⟩ = some (.int .i64 z) := by simp
set_option maxRecDepth 100000 in
set_option maxHeartbeats 4000000 in
theorem ForWhom (A : Option Addr) (n c : Nat) (L : List WaitV) (o : Int) (w : World) (h : Wts w A n L) : Calls Try.prog 37 #[.slice A n c, .int .i64 o] w fun e w' => ∃ A' n' c', e = .returned (.slice A' n' c') ∧ Ns w' A' n' (whomL L o) ∧ BelowC w w' := by
  have hn := h.2.1
  have H := hid h
  have HL := hid h.1
  clear h
  go_enter Try.func37, Try.ntmps37
  go_wp2_with fail
  go_loopw [6, 9] (fun _ v wr => ∃ k : Nat, k ≤ n ∧ v = .int .i64 k ∧ BelowC w wr ∧ Hid (∀ j (hj : j < L.length), j < k → (L[j].o == o) = false)) (fun _ v _ => n - (intOf v).toNat)
  case atStart => exact ⟨0, by omega, rfl, bc_refl w, hid (fun j _ hj => absurd hj (by omega))⟩
  case round =>
    obtain ⟨k, hk, rfl, HK, HA⟩ := hrel
    rename World => wK
    by_cases hlt : k < n
    · obtain ⟨b, o1, rfl, hb0, hc⟩ := H.out.2.2 (by omega)
      have hkl : k < L.length := by have := HL.out; omega
      have hx := (hc k hkl).below HK hb0
      have HH := hid (fun h => whom_hit (o := o) hkl h HA.out)
      have HKL := hid hkl
      generalize hxe : L[k] = x at hx HH
      have HXE := hid hxe
      have q0 := hx.c0
      have q1 := hx.c1
      have HN := hid hx.ns
      have i1 : (k : Int) < (n : Int) := by omega
      clear hx hc hkl hxe
      cases hq : (x.o == o)
      · have HQ := hid hq
        go_wp2_with fail
        go_roundw
        case rel => exact ⟨k + 1, by omega, by go_num, bc_alloc HK _, hid (fun j hjl hj => by
          by_cases e : j = k
          · subst e; exact (congrArg (fun x : WaitV => x.o == o) HXE.out).trans HQ.out
          · exact HA.out j hjl (by omega))⟩
        case measure => simp [intOf]; omega
      · have HW := hid (HH.out hq)
        go_wp2_with fail
        go_returns
        exact ⟨_, _, _, rfl, by rw [HW.out]; exact HN.out.below (bc_alloc (bc_refl _) _), bc_alloc HK _⟩
    · have HW : Hid (whomL L o = []) := hid (whom_miss (fun j hj => HA.out j hj (by have := HL.out; omega)))
      go_wp2_with fail
      go_returns
      exact ⟨none, 0, 0, rfl, by rw [HW.out]; exact ⟨rfl, by simp, fun h => absurd h (by simp)⟩, HK⟩
end Go.Proofs.Ytmokjaelgfikeaa.K
