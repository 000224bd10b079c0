/- lock.Put. -/
import Derived.Test.YtabbceinagakfaaProg
import Derived.Below
import Derived.WalkKit
import Derived.KernelRfl
import Derived.RowKit
import Derived.RowKit3
import Derived.Tactics
import Derived.Deep.QuietTactic
import Derived.BigQuiet
import Derived.OwnWalk
import Derived.Outline
import Derived.Handy
import Derived.StillTailTactics
import Derived.Deep.RegionHeld3
import Derived.Deep.DeepCutAuto
import Derived.Deep.CutBlock
import Derived.Shelf.Abstract
import Derived.Shelf.SlSortCmp.QuietGrown
import Derived.Lib.SliceRun
import Derived.Sort.OwnSortedInts
import Derived.Lib.SlicesCompact
import Derived.Lib.SmallJoins
import Derived.SliceStrings
import Derived.ArgAppend
import Derived.Deep.Slices
import Derived.ChangeSame
import Derived.Lib.Strings
import Derived.Test.YtabbceinagakfaaD20
namespace Go.Proofs.Ytabbceinagakfaa.K
open Go.RowKit Go.Proofs.YtabbceinagakfaaS
set_option linter.unusedSimpArgs false
set_option linter.unusedVariables false
attribute [local go_sem] s_leq s_gtr s_geq s_maxr s_minr
attribute [local go_sem] bc_alloc2 bc_alloc3 s_alloc_drewN s_setCell_drewN bc_alloc bc_drewN bc_drew

def maxI (a b : Int) : Int := max a b
def raise (y x : LockV) : LockV := { y with mode := maxI y.mode x.mode }
/-- A lock put among others. -/
def putL (L : List LockV) (x : LockV) : List LockV := if 0 ≤ idxL (sameL x) L then L.set (idxL (sameL x) L).toNat (raise L[(idxL (sameL x) L).toNat]! x) else L ++ [x]
theorem own_mode {w b : World} {g n cap i : Nat} {M : List LockV} (y : LockV) (md : Int) (h : OwnL w b (.slice (some ⟨g, 0, none⟩) n cap) M) (hn : n = M.length) (hi : i < M.length) (hy : M[i] = y) :
    OwnL (w.setCell ⟨g, i * 6 + 5, none⟩ (.int .i64 md)) b (.slice (some ⟨g, 0, none⟩) n cap) (M.set i { y with mode := md }) := by
  subst hn
  unfold OwnL at h ⊢
  rw [List.length_set, ← flat_set M i _ hi]
  have hq := World.ownsRow.stored h (i * 6 + 5) (.int .i64 md)
  have e : ((((((M.flatMap lkCells).set (i * 6) (.int .i64 y.owner)).set (i * 6 + 1) (.int .i64 y.table)).set (i * 6 + 2) (.string y.lo)).set (i * 6 + 3) (.string y.hi)).set (i * 6 + 4) (.bool y.top)) = M.flatMap lkCells := by
    have hs : ∀ (r : Nat) (u : Value), (lkCells y)[r]? = some u → (M.flatMap lkCells).set (i * 6 + r) u = M.flatMap lkCells := fun r u hu => by
      have hr := (List.getElem?_eq_some_iff.1 hu).1
      have hg := flat_get M i hi r hr
      rw [hy, hu] at hg
      obtain ⟨hlt, hv⟩ := List.getElem?_eq_some_iff.1 hg
      rw [← hv]
      exact List.set_getElem_self hlt
    rw [show i * 6 = i * 6 + 0 by omega, hs 0 _ rfl, show i * 6 + 0 + 1 = i * 6 + 1 by omega, hs 1 _ rfl, show i * 6 + 0 + 2 = i * 6 + 2 by omega, hs 2 _ rfl, show i * 6 + 0 + 3 = i * 6 + 3 by omega, hs 3 _ rfl, show i * 6 + 0 + 4 = i * 6 + 4 by omega, hs 4 _ rfl]
  rw [e]
  exact hq.1
set_option maxRecDepth 100000 in
set_option maxHeartbeats 4000000 in
theorem Put (A : Option Addr) (n c : Nat) (L : List LockV) (x : LockV) (w : World) (h : Lks w A n L) (hbig : n ≤ 2199023255550) : Calls Try.prog 30 #[.slice A n c, x.val] w (RetL (putL L x) w) := by
  have h0 := bc_refl w
  have H := hid h
  clear h
  obtain ⟨wb, hA, hAA, hsz, c0, c1, c2, c3, c4, c5⟩ : ∃ wb : World, BelowC w wb ∧ BelowC wb (w.alloc (.cells #[.int .i64 x.owner, .int .i64 x.table, .string x.lo, .string x.hi, .bool x.top, .int .i64 x.mode] 31)) ∧ w.heap.size + 1 ≤ wb.heap.size ∧ (∀ w', BelowC wb w' → w'.cell? ⟨w.heap.size, 0, none⟩ = some (.int .i64 x.owner)) ∧ (∀ w', BelowC wb w' → w'.cell? ⟨w.heap.size, 1, none⟩ = some (.int .i64 x.table)) ∧ (∀ w', BelowC wb w' → w'.cell? ⟨w.heap.size, 2, none⟩ = some (.string x.lo)) ∧ (∀ w', BelowC wb w' → w'.cell? ⟨w.heap.size, 3, none⟩ = some (.string x.hi)) ∧ (∀ w', BelowC wb w' → w'.cell? ⟨w.heap.size, 4, none⟩ = some (.bool x.top)) ∧ (∀ w', BelowC wb w' → w'.cell? ⟨w.heap.size, 5, none⟩ = some (.int .i64 x.mode)) := ⟨_, bc_alloc (bc_refl _) _, bc_refl _, by simp, bc_cell (by go_simp) (by first | (simp; done) | (simp; omega)), bc_cell (by go_simp) (by first | (simp; done) | (simp; omega)), bc_cell (by go_simp) (by first | (simp; done) | (simp; omega)), bc_cell (by go_simp) (by first | (simp; done) | (simp; omega)), bc_cell (by go_simp) (by first | (simp; done) | (simp; omega)), bc_cell (by go_simp) (by first | (simp; done) | (simp; omega))⟩
  have HA := hid hA
  go_enter Try.func30, Try.ntmps30
  go_wp2_with fail
  refine (Clone A n c L _ (H.out.below (bc_alloc h0 _)) (by omega)).mono ?_
  rintro e v1 ⟨v, rfl, hown, hb⟩
  have HX : BelowC wb v1 := bc_step hAA hb
  have HB := hid hb
  obtain ⟨A2, n2, c2, rfl, hn2, hnc2, hL2, hA2⟩ := own_form hown
  have HO := hid hown
  have HN2 := hid hn2
  have HL2 := hid hL2
  have HA2 := hid hA2
  have HHA := hid hA
  have hnl : n2 ≤ 9223372036854775807 := hL2.2.1
  have HNL := hid (H.out.1)
  clear hb hown hn2 hL2 hA2
  rcases idx_cases (sameL x) L with ⟨hi, hall⟩ | ⟨k, hk, hi, hpk, hlow⟩
  · have HI := hid hi
    have HP : Hid (putL L x = L ++ [x]) := hid (by rw [putL, hi]; rfl)
    clear hi hall
    go_wp2_with (first | (go_at_call 29; refine (lockOwn A2 n2 c2 L x _ HL2.out).mono ?_; rintro e v2 ⟨rfl, hb⟩; rw [HI.out]; have HX2 := hid hb; have HX3 : BelowC wb v2 := bc_trans HX hb; clear hb) | (at_builtin; refine pause ?_))
    unfold Pause
    refine app22 (b := w.alloc (.cells #[.int .i64 x.owner, .int .i64 x.table, .string x.lo, .string x.hi, .bool x.top, .int .i64 x.mode] 31)) rfl (.tmp 26) (.tmp 28) rfl _ L rfl (own_below HO.out (bc_trans HX2.out (bc_alloc (bc_refl _) _))) ⟨v2.heap.size, 0, none⟩ 1 1 [x] rfl (one_lk v2 x) (by have := HNL.out; omega) (bc_trans HB.out (bc_trans HX2.out (bc_alloc (bc_refl _) _))) ?_
    intro v' w1 hown1 HB1
    have HOWN := hid hown1
    clear hown1
    go_wp2_with fail
    go_returns
    exact ⟨_, rfl, by rw [HP.out]; exact own_le HOWN.out (bc_alloc h0 _), bc_trans (bc_alloc h0 _) HB1⟩
  · have HI := hid hi
    have HK := hid hk
    have HP : Hid (putL L x = L.set k (raise L[k] x)) := hid (by rw [putL, hi, if_pos (by omega), show ((k : Int)).toNat = k by omega, getI hk]; rfl)
    have hkn : k < n2 := by have := HN2.out; omega
    clear hi hpk hlow hk
    obtain ⟨g, o1, rfl, _, _⟩ := HL2.out.2.2 (by omega)
    obtain ⟨g', hg, hbg, _, _⟩ := HA2.out _ rfl
    cases hg
    go_upto_region 3 with (go_at_call 29; refine (lockOwn _ n2 c2 L x _ HL2.out).mono ?_; rintro e v2 ⟨rfl, hb⟩; rw [HI.out]; have HX2 := hid hb; have HX3 : BelowC wb v2 := bc_trans HX hb; clear hb)
    have HO2 := hid (own_below HO.out HX2.out)
    have hy := own_at HO2.out HN2.out HK.out
    generalize hye : (L[k]'HK.out) = y at hy HP
    have HYE := hid hye
    have s5 := hy.c5
    clear hy hye
    have fz := own_fz HO2.out HN2.out
    have i1 : (k : Int) < (n2 : Int) := by omega
    have i0 : (0 : Int) ≤ (k : Int) := by omega
    have cx := c5 v2 HX3
    go_upto_region 4 with (fail)
    go_still_tail 12, (by kernel_rfl)
    have HF : Hid (OwnL (v2.setCell ⟨g, k * 6 + 5, none⟩ (.int .i64 (max y.mode x.mode))).drew (w.alloc (.cells #[.int .i64 x.owner, .int .i64 x.table, .string x.lo, .string x.hi, .bool x.top, .int .i64 x.mode] 31)) (.slice (some ⟨g, 0, none⟩) n2 c2) (L.set k (raise y x))) := hid (World.ownsRow.drew (own_mode y (max y.mode x.mode) HO2.out HN2.out HK.out HYE.out))
    have HBD := hid (bc_trans HB.out HX2.out)
    go_wp2_with fail
    go_returns
    exact ⟨.slice (some ⟨g, 0, none⟩) n2 c2, rfl, by rw [HP.out]; exact own_le HF.out (bc_alloc h0 _), bc_trans (bc_alloc h0 _) (bc_drew (bc_set HBD.out hbg))⟩
end Go.Proofs.Ytabbceinagakfaa.K
