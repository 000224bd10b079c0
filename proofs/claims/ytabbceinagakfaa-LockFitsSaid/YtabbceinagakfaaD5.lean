/- lock.May. -/
import Derived.Test.YtabbceinagakfaaProg
import Derived.Below
import Derived.WalkKit
import Derived.KernelRfl
import Derived.RowKit
import Derived.RowKit3
import Derived.Tactics
import Derived.Deep.QuietTactic
import Derived.BigQuiet
import Derived.OwnWalk
import Derived.Outline
import Derived.Handy
import Derived.StillTailTactics
import Derived.Deep.RegionHeld3
import Derived.Deep.DeepCutAuto
import Derived.Deep.CutBlock
import Derived.Shelf.Abstract
import Derived.Lib.SmallJoins
import Derived.SliceStrings
import Derived.ArgAppend
import Derived.Deep.Slices
import Derived.ChangeSame
import Derived.Lib.Strings
import Derived.Test.YtabbceinagakfaaD4
namespace Go.Proofs.Ytabbceinagakfaa.K
open Go.RowKit Go.Proofs.YtabbceinagakfaaS
set_option linter.unusedSimpArgs false
set_option linter.unusedVariables false
attribute [local go_sem] s_leq s_gtr s_geq s_maxr s_minr
attribute [local go_sem] bc_alloc2 bc_alloc3 s_alloc_drewN s_setCell_drewN bc_alloc bc_drewN bc_drew

def badL (x y : LockV) : Bool := sameL x y || clashL x y
def pairsL (L : List LockV) (k : Nat) : Bool := (List.range k).all fun i => !((L.take i).any (badL L[i]!))
def mayL (L : List LockV) : Bool := decide ((L.length : Int) ≤ 200) && (!(L.any fun x => !isL x) && pairsL L L.length)
theorem pairsL_miss {L : List LockV} {k n : Nat} (hk : k < n) (h : (L.take k).any (badL L[k]!) = true) : pairsL L n = false := by
  cases e : pairsL L n with
  | false => rfl
  | true =>
    have := List.all_eq_true.1 e k (List.mem_range.2 hk)
    rw [h] at this
    cases this
theorem pairsL_all {L : List LockV} {n : Nat} (h : ∀ j, j < n → (L.take j).any (badL L[j]!) = false) : pairsL L n = true := by
  refine List.all_eq_true.2 fun i hi => ?_
  rw [h i (List.mem_range.1 hi)]
  rfl
theorem getI {L : List LockV} {k : Nat} (h : k < L.length) : L[k]! = L[k] := getElem!_pos L k h
set_option maxHeartbeats 2000000 in
theorem lockMay (A : Option Addr) (n c : Nat) (L : List LockV) (w : World) (h : Lks w A n L) (hc : n ≤ c) : Calls Try.prog 26 #[.slice A n c] w (Ret (.bool (mayL L)) w) := by
  have hn := h.2.1
  have H := hid h
  have HC := hid hc
  have HL := hid h.1
  clear h hc
  have h0 := bc_refl w
  by_cases h2 : (n : Int) ≤ 200
  rotate_left
  · go_enter Try.func26, Try.ntmps26
    go_wp2_with fail
    go_returns
    exact ⟨by simp [mayL, ← HL.out]; intro; omega, h0⟩
  have h200 : ((L.length : Nat) : Int) ≤ 200 := by have := HL.out; omega
  have HM := hid h200
  clear h200
  have hl : (L.any fun x => !isL x) = true ∨ (L.any fun x => !isL x) = false := by cases (L.any fun x => !isL x) <;> simp
  rcases hl with hq | hq
  · have HQ := hid hq
    go_enter Try.func26, Try.ntmps26
    go_wp2_with (go_at_call 45; refine (ContainsFunc (fun x => !isL x) 46 #[] (enters_of Try.func46 (by kernel_rfl) rfl) _ _ _ L _ H.out (fun x W _ => Lit46 x W)).mono ?_; rintro e v1 ⟨rfl, hb⟩; rw [HQ.out]; have HX : BelowC w v1 := bc_step h0 hb; clear hb)
    go_returns
    exact ⟨by simp [mayL, hq], HX⟩
  · have HQ := hid hq
    clear hq
    go_enter Try.func26, Try.ntmps26
    go_wp2_with (go_at_call 45; refine (ContainsFunc (fun x => !isL x) 46 #[] (enters_of Try.func46 (by kernel_rfl) rfl) _ _ _ L _ H.out (fun x W _ => Lit46 x W)).mono ?_; rintro e v1 ⟨rfl, hb⟩; rw [HQ.out]; have HX : BelowC w v1 := bc_step h0 hb; clear hb)
    go_loopw [3, 4, 14] (fun _ _ y wr => ∃ k : Nat, k ≤ n ∧ y = .int .i64 k ∧ BelowC w wr ∧ Hid (∀ j, j < k → (L.take j).any (badL L[j]!) = false)) (fun _ _ y _ => n - (intOf y).toNat)
    case atStart => exact ⟨0, by omega, rfl, HX, hid (fun j hj => absurd hj (by omega))⟩
    case round =>
      clear HX
      obtain ⟨k, hk, rfl, HK, HA⟩ := hrel
      rename World => wK
      by_cases hlt : k < n
      · obtain ⟨b, o, rfl, hb0, hcs⟩ := H.out.2.2 (by omega)
        have hkl : k < L.length := by have := HL.out; omega
        have hx := (hcs k hkl).below HK hb0
        have hcc : k ≤ c := by have := HC.out; omega
        have hcc2 : (k : Int) ≤ (c : Int) := by omega
        have HY := hid (getI hkl)
        generalize L[k] = x at hx HY
        have q0 := hx.c0
        have q1 := hx.c1
        have q2 := hx.c2
        have q3 := hx.c3
        have q4 := hx.c4
        have q5 := hx.c5
        clear hx hcs hkl
        have HTK := hid ((H.out.take (m := k) (by omega)).below (bc_trans HK (bc_alloc (bc_refl wK) (.cells #[.int .i64 x.owner, .int .i64 x.table, .string x.lo, .string x.hi, .bool x.top, .int .i64 x.mode] 31))))
        have hbox : Box6 (wK.alloc (.cells #[.int .i64 x.owner, .int .i64 x.table, .string x.lo, .string x.hi, .bool x.top, .int .i64 x.mode] 31)) wK.heap.size x := ⟨by simp, by go_simp, by go_simp, by go_simp, by go_simp, by go_simp, by go_simp⟩
        have HBX := hid hbox
        clear hbox
        have hk2 := hid (bc_alloc HK (.cells #[.int .i64 x.owner, .int .i64 x.table, .string x.lo, .string x.hi, .bool x.top, .int .i64 x.mode] 31))
        rcases (show (L.take k).any (badL x) = true ∨ (L.take k).any (badL x) = false by cases (L.take k).any (badL x) <;> simp) with hq | hq
        all_goals
          have HP := hid hq
          clear hq
          go_wp2_with (go_at_call 45; refine (ContainsFunc (badL x) 47 #[.pointer (some ⟨wK.heap.size, 0, none⟩)] (enters_of Try.func47 (by kernel_rfl) rfl) _ _ _ (L.take k) _ HTK.out (fun y W hW => Lit47 x y _ W (HBX.out.below hW))).mono ?_; rintro e v1 ⟨rfl, hb⟩; rw [HP.out]; have HX : BelowC w v1 := bc_step hk2.out hb; clear hb)
        · go_returns
          exact ⟨by simp [mayL, HM.out, HQ.out, pairsL_miss (L := L) (k := k) (n := L.length) (by have := HL.out; omega) (by rw [HY.out]; exact HP.out)], HX⟩
        · go_roundw
          case rel =>
            refine ⟨k + 1, by omega, by go_num, HX, hid fun j hj => ?_⟩
            by_cases e : j = k
            · subst e; rw [HY.out]; exact HP.out
            · exact HA.out j (by omega)
          case measure => simp [intOf]; omega
      · have HN := hid (pairsL_all (L := L) (n := L.length) (fun j hj => HA.out j (by have := HL.out; omega)))
        go_wp2_with fail
        go_returns
        exact ⟨by simp [mayL, HM.out, HQ.out, HN.out], HK⟩
end Go.Proofs.Ytabbceinagakfaa.K
