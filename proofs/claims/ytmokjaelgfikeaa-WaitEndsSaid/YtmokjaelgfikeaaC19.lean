/- Heavy. -/
import Derived.Test.YtmokjaelgfikeaaProg
import Derived.Below
import Derived.WalkKit
import Derived.KernelRfl
import Derived.RowKit
import Derived.RowKit3
import Derived.Tactics
import Derived.Deep.QuietTactic
import Derived.BigQuiet
import Derived.OwnWalk
import Derived.Outline
import Derived.Handy
import Derived.StillTailTactics
import Derived.Deep.RegionHeld3
import Derived.Deep.DeepCutAuto
import Derived.Deep.CutBlock
import Derived.Shelf.Abstract
import Derived.Shelf.SlSortCmp.QuietGrown
import Derived.Lib.SliceRun
import Derived.Sort.OwnSortedInts
import Derived.Lib.SlicesCompact
import Derived.Lib.SmallJoins
import Derived.SliceStrings
import Derived.ArgAppend
import Derived.Deep.AppendSrc
import Derived.Deep.Upon
import Derived.Deep.Slices
import Derived.ChangeSame
import Derived.Maps.OwnSet
import Derived.Maps.Range
import Derived.Maps.OwnOps
import Derived.Lib.SlKeysI
import Derived.Maps.Views
import Derived.Maps.AppendAt
import Derived.Test.YtmokjaelgfikeaaC18
import Derived.Test.YtmokjaelgfikeaaR
namespace Go.Proofs.Ytmokjaelgfikeaa.K
open Go.RowKit
set_option linter.unusedSimpArgs false
set_option linter.unusedVariables false
attribute [local go_sem] bc_alloc2 bc_alloc3 s_alloc_drewN s_setCell_drewN bc_alloc bc_drewN bc_drew

/-- All lengths within m. -/
def LenP (x : LsV) (m : Int) : Prop := (x.n : Int) ≤ m ∧ ∀ y ∈ x.L, (y.n : Int) ≤ m
theorem lenP_le {x : LsV} {m m' : Int} (h : LenP x m) (hm : m ≤ m') : LenP x m' := ⟨Int.le_trans h.1 hm, fun y hy => Int.le_trans (h.2 y hy) hm⟩
/-- Lengths that fit the machine. -/
def FitP (x : LsV) : Prop := x.n ≤ 17592186044416 ∧ ∀ y ∈ x.L, y.n ≤ 17592186044416
def RetHv (nL : Nat) (F : Nat → LsV) (w : World) (e : Ending) (w' : World) : Prop := ∃ bb, e = .returned (.bool bb) ∧ (bb = false → ∀ i, i < nL → LenP (F i) 400) ∧ BelowC w w'
set_option maxRecDepth 100000 in
set_option maxHeartbeats 8000000 in
theorem HeavyOf (AL AA AN : Option Addr) (nL cL nA cA nN cN : Nat) (F : Nat → LsV) (w : World) (hF : Lsts w AL nL F) (hL : nL ≤ 17592186044416) (hA : nA ≤ 17592186044416) (hN : nN ≤ 17592186044416) (hfit : ∀ i, i < nL → FitP (F i)) :
    Calls Try.prog 6 #[.agg #[.slice AL nL cL, .slice AA nA cA, .slice AN nN cN]] w (RetHv nL F w) := by
  have H := hid hF
  have HFIT := hid hfit
  clear hF hfit
  obtain ⟨wb, hBA, hBAA, hsz, rr0, rr1, rr2⟩ : ∃ wb : World, BelowC w wb ∧ BelowC wb (w.alloc (.cells #[.slice AL nL cL, .slice AA nA cA, .slice AN nN cN] 25)) ∧ w.heap.size + 1 ≤ wb.heap.size ∧ (∀ w', BelowC wb w' → w'.cell? ⟨w.heap.size, 0, none⟩ = some (.slice AL nL cL)) ∧ (∀ w', BelowC wb w' → w'.cell? ⟨w.heap.size, 1, none⟩ = some (.slice AA nA cA)) ∧ (∀ w', BelowC wb w' → w'.cell? ⟨w.heap.size, 2, none⟩ = some (.slice AN nN cN)) := ⟨_, bc_alloc (bc_refl _) _, bc_refl _, by simp, bc_cell (by go_simp) (by first | (simp; done) | (simp; omega)), bc_cell (by go_simp) (by first | (simp; done) | (simp; omega)), bc_cell (by go_simp) (by first | (simp; done) | (simp; omega))⟩
  have HBA := hid hBA
  go_enter Try.func6, Try.ntmps6
  go_wp2_with fail
  go_loopg [3, 4, 5] nL (fun g y3 y4 _ wr => ∃ (i : Nat) (m : Int), i ≤ nL ∧ g = nL - i ∧ y3 = .int .i64 m ∧ y4 = .int .i64 i ∧ 0 ≤ m ∧ m ≤ 70368745226240 ∧ wr = w.alloc (.cells #[.slice AL nL cL, .slice AA nA cA, .slice AN nN cN] 25) ∧ Hid (1048576 ≤ m ∨ ∀ j, j < i → LenP (F j) m))
  case atStart => exact ⟨0, _, by omega, by omega, rfl, rfl, by omega, by omega, rfl, hid (.inr fun j hj => absurd hj (by omega))⟩
  case round =>
    obtain ⟨i, m, hi, rfl, rfl, rfl, hm0, hm1, rfl, HM⟩ := hrel
    by_cases hlt : i < nL
    rotate_left
    · have d1 : decide ((i : Int) < (nL : Int)) = false := decide_eq_false (by omega)
      have HF : Hid (decide ((400 : Int) < m) = false → ∀ i, i < nL → LenP (F i) 400) := hid (fun h j hj => by
        have h4 := of_decide_eq_false h
        rcases HM.out with h1 | h1
        · omega
        · exact lenP_le (h1 j (by omega)) (by omega))
      go_wp2_with fail
      go_returns
      exact ⟨_, rfl, HF.out, bc_alloc (bc_refl _) _⟩
    have d1 : decide ((i : Int) < (nL : Int)) = true := decide_eq_true (by omega)
    have i1 : (i : Int) < (nL : Int) := by omega
    by_cases hm2 : m < 1048576
    rotate_left
    · have d2 : decide (m < (1048576 : Int)) = false := decide_eq_false hm2
      have HF : Hid (decide ((400 : Int) < m) = false → ∀ i, i < nL → LenP (F i) 400) := hid (fun h j hj => by
        have h4 := of_decide_eq_false h
        omega)
      go_wp2_with fail
      go_returns
      exact ⟨_, rfl, HF.out, bc_alloc (bc_refl _) _⟩
    have d2 : decide (m < (1048576 : Int)) = true := decide_eq_true hm2
    obtain ⟨b, o, rfl, hb0, hc⟩ := H.out.2 (by omega)
    have hx := hc i hlt
    have HFI := hid (HFIT.out i hlt)
    have HMI : Hid (∀ j, j < i → LenP (F j) m) := hid (by rcases HM.out with h1 | h1; · omega
                                                          · exact h1)
    generalize hfx : F i = x at hx HFI
    have HFX := hid hfx
    have q0 := bc_cell hx.c0 hb0
    have HW := hid hx.wt
    have hxn := HFI.out.1
    have h00 := bc_refl w
    clear hx hc hfx HM
    obtain ⟨xA, xn, xc, xL⟩ := x
    dsimp only at q0 HW hxn
    go_wp2_with fail
    go_loopg [3, 5] xn (fun g y3 y5 wr => ∃ (k : Nat) (m' : Int), k ≤ xn ∧ g = xn - k ∧ y3 = .int .i64 m' ∧ y5 = .int .i64 k ∧ m ≤ m' ∧ (xn : Int) ≤ m' ∧ m' ≤ 35184372088832 ∧ wr = w.alloc (.cells #[.slice (some ⟨b, o, none⟩) nL cL, .slice AA nA cA, .slice AN nN cN] 25) ∧ Hid (∀ j (hj : j < xL.length), j < k → (xL[j].n : Int) ≤ m'))
    case atStart => exact ⟨0, m + (xn : Int), by omega, by omega, by go_num, rfl, by omega, by omega, by omega, rfl, hid (fun j _ hj => absurd hj (by omega))⟩
    case round =>
      obtain ⟨k, m', hk, rfl, rfl, rfl, hmm, hxm, hmb, rfl, HK⟩ := hrel
      by_cases hkx : k < xn
      · have d3 : decide ((k : Int) < (xn : Int)) = true := decide_eq_true (by omega)
        have k1 : (k : Int) < (xn : Int) := by omega
        by_cases hm3 : m' < 1048576
        · have d4 : decide (m' < (1048576 : Int)) = true := decide_eq_true hm3
          obtain ⟨b2, o2, rfl, hb2, hc2⟩ := HW.out.2.2 (by omega)
          have hkl : k < xL.length := by have := HW.out.1; omega
          have hy := hc2 k hkl
          have HYN := hid (HFI.out.2 _ (List.getElem_mem hkl))
          have HKK := hid (fun (v : Int) (hv : m' ≤ v) (hn : (xL[k].n : Int) ≤ v) j (hj : j < xL.length) (hjk : j < k + 1) => (by
            by_cases e : j = k
            · subst e; exact hn
            · exact Int.le_trans (HK.out j hj (by omega)) hv : (xL[j].n : Int) ≤ v))
          generalize xL[k] = y at hy HYN HKK
          have p1 := bc_cell hy.c1 hb2
          have hyn := HYN.out
          clear hy hc2 hkl
          go_wp2_with fail
          go_roundg (xn - (k + 1))
          case measure => omega
          case rel => exact ⟨k + 1, m' + (y.n : Int), by omega, rfl, by go_num, by go_num, by omega, by omega, by omega, rfl, hid (HKK.out _ (by omega) (by omega))⟩
        · have d4 : decide (m' < (1048576 : Int)) = false := decide_eq_false hm3
          go_wp2_with fail
          go_roundg (nL - (i + 1))
          case measure => omega
          case rel => exact ⟨i + 1, m', by omega, rfl, rfl, by go_num, by omega, by omega, rfl, hid (.inl (by omega))⟩
      · have d3 : decide ((k : Int) < (xn : Int)) = false := decide_eq_false (by omega)
        have HALL : Hid (∀ j, j < i + 1 → LenP (F j) m') := hid (fun j hj => by
          by_cases e : j = i
          · rw [e, HFX.out]
            exact ⟨hxm, fun y hy => by
              obtain ⟨q, hq, rfl⟩ := List.mem_iff_getElem.1 hy
              exact HK.out q hq (by have := HW.out.1; have hq2 : q < xL.length := hq; omega)⟩
          · exact lenP_le (HMI.out j (by omega)) hmm)
        go_wp2_with fail
        go_roundg (nL - (i + 1))
        case measure => omega
        case rel => exact ⟨i + 1, m', by omega, rfl, rfl, by go_num, by omega, by omega, rfl, hid (.inr HALL.out)⟩
end Go.Proofs.Ytmokjaelgfikeaa.K
