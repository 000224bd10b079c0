/- lock.Block, Heavy. -/
import Derived.Test.YtabbceinagakfaaProg
import Derived.Below
import Derived.WalkKit
import Derived.KernelRfl
import Derived.RowKit
import Derived.RowKit3
import Derived.Tactics
import Derived.Deep.QuietTactic
import Derived.BigQuiet
import Derived.OwnWalk
import Derived.Outline
import Derived.Handy
import Derived.StillTailTactics
import Derived.Deep.RegionHeld3
import Derived.Deep.DeepCutAuto
import Derived.Deep.CutBlock
import Derived.Shelf.Abstract
import Derived.Shelf.SlSortCmp.QuietGrown
import Derived.Lib.SliceRun
import Derived.Sort.OwnSortedInts
import Derived.Lib.SlicesCompact
import Derived.Lib.SmallJoins
import Derived.SliceStrings
import Derived.ArgAppend
import Derived.Deep.Slices
import Derived.ChangeSame
import Derived.Lib.Strings
import Derived.Test.YtabbceinagakfaaD15
namespace Go.Proofs.Ytabbceinagakfaa.K
open Go.RowKit Go.Proofs.YtabbceinagakfaaS
set_option linter.unusedSimpArgs false
set_option linter.unusedVariables false
attribute [local go_sem] s_leq s_gtr s_geq s_maxr s_minr
attribute [local go_sem] bc_alloc2 bc_alloc3 s_alloc_drewN s_setCell_drewN bc_alloc bc_drewN bc_drew

def RetIE (xs : List Int) (E : Int) (w : World) (e : Ending) (w' : World) : Prop := ∃ v, e = .returned (.tuple #[v, .int .i64 E]) ∧ OwnI w' w v xs ∧ BelowC w w'
def blockL (L : List LockV) (x : LockV) : List Int := bif goodL L x then othersL L x else []
set_option maxHeartbeats 4000000 in
theorem Block (A : Option Addr) (n c : Nat) (L : List LockV) (x : LockV) (w : World) (h : Lks w A n L) (hc : n ≤ c) (hbig : n ≤ 2199023255551) : Calls Try.prog 11 #[.slice A n c, x.val] w (RetIE (blockL L x) (errI (goodL L x)) w) := by
  have h0 := bc_refl w
  have H := hid h
  clear h
  have HM := hid (lockMay A n c L)
  obtain ⟨wb, hA, hAA, hsz, c0, c1, c2, c3, c4, c5⟩ : ∃ wb : World, BelowC w wb ∧ BelowC wb (w.alloc (.cells #[.int .i64 x.owner, .int .i64 x.table, .string x.lo, .string x.hi, .bool x.top, .int .i64 x.mode] 31)) ∧ w.heap.size + 1 ≤ wb.heap.size ∧ (∀ w', BelowC wb w' → w'.cell? ⟨w.heap.size, 0, none⟩ = some (.int .i64 x.owner)) ∧ (∀ w', BelowC wb w' → w'.cell? ⟨w.heap.size, 1, none⟩ = some (.int .i64 x.table)) ∧ (∀ w', BelowC wb w' → w'.cell? ⟨w.heap.size, 2, none⟩ = some (.string x.lo)) ∧ (∀ w', BelowC wb w' → w'.cell? ⟨w.heap.size, 3, none⟩ = some (.string x.hi)) ∧ (∀ w', BelowC wb w' → w'.cell? ⟨w.heap.size, 4, none⟩ = some (.bool x.top)) ∧ (∀ w', BelowC wb w' → w'.cell? ⟨w.heap.size, 5, none⟩ = some (.int .i64 x.mode)) := ⟨_, bc_alloc (bc_refl _) _, bc_refl _, by simp, bc_cell (by go_simp) (by first | (simp; done) | (simp; omega)), bc_cell (by go_simp) (by first | (simp; done) | (simp; omega)), bc_cell (by go_simp) (by first | (simp; done) | (simp; omega)), bc_cell (by go_simp) (by first | (simp; done) | (simp; omega)), bc_cell (by go_simp) (by first | (simp; done) | (simp; omega)), bc_cell (by go_simp) (by first | (simp; done) | (simp; omega))⟩
  have HA := hid hA
  cases hm : mayL L
  · have HF : Hid (blockL L x = []) := hid (by simp [blockL, goodL, hm])
    have HE : Hid (errI (goodL L x) = 1) := hid (by simp [errI, goodL, hm])
    go_enter Try.func11, Try.ntmps11
    go_wp2_with (first | (go_at_call 26; refine (HM.out _ (H.out.below (bc_trans hA (by repeat (with_reducible first | assumption | exact bc_refl _ | apply bc_alloc | apply bc_drewN | apply bc_drew)))) hc).mono ?_; rintro e v1 ⟨rfl, hb⟩; rw [hm]; have HX : BelowC wb v1 := bc_step (by repeat (with_reducible first | assumption | exact bc_refl _ | apply bc_alloc | apply bc_drewN | apply bc_drew)) hb; clear hb) | (go_at_call 27; (with_reducible refine (lockIs x _).mono ?_); rintro e v2 ⟨rfl, hb⟩; rw [hx]; have HX2 : BelowC wb v2 := bc_step (by repeat (with_reducible first | assumption | exact bc_refl _ | apply bc_alloc | apply bc_drewN | apply bc_drew)) hb; clear hb))
    go_returns
    exact ⟨.slice none 0 0, by rw [HE.out]; rfl, by rw [HF.out]; exact ownI_nil _ _, bc_trans HA.out (by repeat (with_reducible first | assumption | exact bc_refl _ | apply bc_alloc | apply bc_drewN | apply bc_drew))⟩
  · cases hx : isL x
    · have HF : Hid (blockL L x = []) := hid (by simp [blockL, goodL, hm, hx])
      have HE : Hid (errI (goodL L x) = 1) := hid (by simp [errI, goodL, hm, hx])
      go_enter Try.func11, Try.ntmps11
      go_wp2_with (first | (go_at_call 26; refine (HM.out _ (H.out.below (bc_trans hA (by repeat (with_reducible first | assumption | exact bc_refl _ | apply bc_alloc | apply bc_drewN | apply bc_drew)))) hc).mono ?_; rintro e v1 ⟨rfl, hb⟩; rw [hm]; have HX : BelowC wb v1 := bc_step (by repeat (with_reducible first | assumption | exact bc_refl _ | apply bc_alloc | apply bc_drewN | apply bc_drew)) hb; clear hb) | (go_at_call 27; (with_reducible refine (lockIs x _).mono ?_); rintro e v2 ⟨rfl, hb⟩; rw [hx]; have HX2 : BelowC wb v2 := bc_step (by repeat (with_reducible first | assumption | exact bc_refl _ | apply bc_alloc | apply bc_drewN | apply bc_drew)) hb; clear hb))
      go_returns
      exact ⟨.slice none 0 0, by rw [HE.out]; rfl, by rw [HF.out]; exact ownI_nil _ _, bc_trans HA.out (by repeat (with_reducible first | assumption | exact bc_refl _ | apply bc_alloc | apply bc_drewN | apply bc_drew))⟩
    · have HF : Hid (blockL L x = othersL L x) := hid (by simp [blockL, goodL, hm, hx])
      have HE : Hid (errI (goodL L x) = 0) := hid (by simp [errI, goodL, hm, hx])
      go_enter Try.func11, Try.ntmps11
      go_wp2_with (first | (go_at_call 26; refine (HM.out _ (H.out.below (bc_trans hA (by repeat (with_reducible first | assumption | exact bc_refl _ | apply bc_alloc | apply bc_drewN | apply bc_drew)))) hc).mono ?_; rintro e v1 ⟨rfl, hb⟩; rw [hm]; have HX : BelowC wb v1 := bc_step (by repeat (with_reducible first | assumption | exact bc_refl _ | apply bc_alloc | apply bc_drewN | apply bc_drew)) hb; clear hb) | (go_at_call 27; (with_reducible refine (lockIs x _).mono ?_); rintro e v2 ⟨rfl, hb⟩; rw [hx]; have HX2 : BelowC wb v2 := bc_step (by repeat (with_reducible first | assumption | exact bc_refl _ | apply bc_alloc | apply bc_drewN | apply bc_drew)) hb; clear hb) | (go_at_call 28; refine (Others _ _ _ L x _ (H.out.below (bc_trans hA (by repeat (with_reducible first | assumption | exact bc_refl _ | apply bc_alloc | apply bc_drewN | apply bc_drew)))) hbig).mono ?_; rintro e v3 ⟨v, rfl, ho, hb⟩; have HX3 := hid hb; have HO := hid (ownI_le ho (bc_trans hA (by repeat (with_reducible first | assumption | exact bc_refl _ | apply bc_alloc | apply bc_drewN | apply bc_drew)))); have HXX : BelowC wb v3 := bc_trans (by repeat (with_reducible first | assumption | exact bc_refl _ | apply bc_alloc | apply bc_drewN | apply bc_drew)) hb; clear ho hb))
      go_returns
      exact ⟨v, by rw [HE.out]; rfl, by rw [HF.out]; exact HO.out, bc_trans HA.out HXX⟩
/-- Go's n behind a loop that goes on while n is small. -/
def lpV (step : Nat → Int → Int) (n : Nat) : Nat → Int → Int
  | 0, m => m
  | r + 1, m => if m < 1048576 then lpV step n r (step (n - (r + 1)) m) else m
theorem lpV_step {step : Nat → Int → Int} {n k : Nat} {m : Int} (hk : k < n) (hm : m < 1048576) : lpV step n (n - k) m = lpV step n (n - (k + 1)) (step k m) := by
  obtain ⟨r, hr⟩ : ∃ r, n - k = r + 1 := ⟨n - k - 1, by omega⟩
  rw [hr, lpV, if_pos hm, show n - (r + 1) = k by omega, show n - (k + 1) = r by omega]
theorem lpV_stop {step : Nat → Int → Int} {n k : Nat} {m : Int} (hm : ¬ m < 1048576) : lpV step n (n - k) m = m := by
  cases h : n - k with
  | zero => rfl
  | succ r => rw [lpV, if_neg hm]
/-- Only reads and draws happened. -/
def QRet (v : Value) (w : World) (e : Ending) (w' : World) : Prop := e = .returned v ∧ ∃ m, w' = w.drewN m
def lkAt (L : List LockV) (i : Nat) : LockV := L[i]!
def lkS (L : List LockV) (i : Nat) (m : Int) : Int := wrap64 (m + wrap64 ((wrap64 (((lkAt L i).lo.size : Int) + ((lkAt L i).hi.size : Int))).tdiv 8))
set_option maxHeartbeats 1000000 in
theorem LocksWeight (A : Option Addr) (n c : Nat) (L : List LockV) (w : World) (h : Lks w A n L) : Calls Try.prog 20 #[.slice A n c] w (QRet (.int .i64 (lpV (lkS L) n n n)) w) := by
  have hn := h.2.1
  have HA := hid h
  clear h
  go_enter Try.func20, Try.ntmps20
  go_wp2
  go_loopw [3, 4] (fun u v wr => ∃ (m : Int) (k q : Nat), k ≤ n ∧ u = .int .i64 m ∧ v = .int .i64 k ∧ wr = w.drewN q ∧ Hid (lpV (lkS L) n (n - k) m = lpV (lkS L) n n n)) (fun _ v _ => n - (intOf v).toNat)
  case atStart => exact ⟨n, 0, 0, by omega, rfl, rfl, rfl, rfl⟩
  case round =>
    obtain ⟨m, k, q, hk, rfl, rfl, rfl, HT⟩ := hrel
    by_cases hlt : k < n
    · obtain ⟨b, o, rfl, hb, hc⟩ := HA.out.2.2 (by omega)
      have hkl : k < L.length := by have := HA.out.1; omega
      have hx := hc k hkl
      have hg : L[k] = lkAt L k := (getI hkl).symm
      rw [hg] at hx
      have q2 := hx.c2
      have q3 := hx.c3
      clear hx hc hg hkl
      by_cases hm : m < 1048576
      · have HS := hid (lpV_step (step := lkS L) hlt hm)
        go_wp2
        go_quiet (fail)
        go_wp2
        go_roundw
        case rel => exact ⟨_, k + 1, _, by omega, rfl, by go_num, rfl, hid (HS.out.symm.trans HT.out)⟩
        case measure => simp [intOf]; omega
      · have HS := hid (lpV_stop (step := lkS L) (n := n) (k := k) hm)
        go_wp2
        go_returns
        exact ⟨ret_intq (HS.out.symm.trans HT.out), _, rfl⟩
    · go_wp2
      go_returns
      exact ⟨ret_intq (by rw [← HT.out, show n - k = 0 by omega]; rfl), _, rfl⟩
/-- An act. -/
structure ActV where (d o : Int) (x : LockV)
structure ActAt (w : World) (b o : Nat) (a : ActV) : Prop where
  c0 : w.cell? ⟨b, o, none⟩ = some (.int .i64 a.d)
  c1 : w.cell? ⟨b, o + 1, none⟩ = some (.int .i64 a.o)
  c2 : w.cell? ⟨b, o + 2, none⟩ = some (.int .i64 a.x.owner)
  c3 : w.cell? ⟨b, o + 3, none⟩ = some (.int .i64 a.x.table)
  c4 : w.cell? ⟨b, o + 4, none⟩ = some (.string a.x.lo)
  c5 : w.cell? ⟨b, o + 5, none⟩ = some (.string a.x.hi)
  c6 : w.cell? ⟨b, o + 6, none⟩ = some (.bool a.x.top)
  c7 : w.cell? ⟨b, o + 7, none⟩ = some (.int .i64 a.x.mode)
theorem ActAt.below {w w' : World} {b o : Nat} {a : ActV} (h : ActAt w b o a) (hb : BelowC w w') (hlt : b < w.heap.size) : ActAt w' b o a :=
  ⟨bc_cell h.c0 hlt w' hb, bc_cell h.c1 hlt w' hb, bc_cell h.c2 hlt w' hb, bc_cell h.c3 hlt w' hb, bc_cell h.c4 hlt w' hb, bc_cell h.c5 hlt w' hb, bc_cell h.c6 hlt w' hb, bc_cell h.c7 hlt w' hb⟩
/-- A slice of acts. -/
def Acts (w : World) (A : Option Addr) (n : Nat) (F : Nat → ActV) : Prop :=
  n ≤ 9223372036854775807 ∧ (0 < n → ∃ b o, A = some ⟨b, o, none⟩ ∧ b < w.heap.size ∧ ∀ i, i < n → ActAt w b (o + i * 8) (F i))
theorem Acts.below {w w' : World} {A : Option Addr} {n : Nat} {F : Nat → ActV} (h : Acts w A n F) (hb : BelowC w w') : Acts w' A n F := by
  refine ⟨h.1, fun h0 => ?_⟩
  obtain ⟨b, o, e, hlt, hc⟩ := h.2 h0
  exact ⟨b, o, e, bc_lt hb hlt, fun i hi => (hc i hi).below hb hlt⟩
def SomeBool (w : World) (e : Ending) (w' : World) : Prop := ∃ n : Bool, e = .returned (.bool n) ∧ BelowC w w'
theorem bc_box {w : World} {o : Obj} {q : Nat} : BelowC w ((w.alloc o).drewN q) := bc_drewN (bc_alloc (bc_refl _) _) _
set_option maxHeartbeats 2000000 in
theorem Heavy (AL AA : Option Addr) (nL cL nA cA : Nat) (L : List LockV) (F : Nat → ActV) (w : World) (hL : Lks w AL nL L) (hF : Acts w AA nA F) : Calls Try.prog 8 #[.agg #[.slice AL nL cL, .slice AA nA cA]] w (SomeBool w) := by
  have hn := hF.1
  have HL := hid hL
  have HF := hid hF
  clear hL hF
  go_enter Try.func8, Try.ntmps8
  go_wp2_with fail
  go_quiet (first | (go_at_call 20; exact Calls.quiet_of (LocksWeight _ _ _ L _ (HL.out.below bc_box))))
  go_wp2
  go_loopw [3, 4] (fun u v wr => ∃ (m : Int) (k q : Nat), k ≤ nA ∧ u = .int .i64 m ∧ v = .int .i64 k ∧ wr = (w.alloc (.cells #[.slice AL nL cL, .slice AA nA cA] 25)).drewN q) (fun _ v _ => nA - (intOf v).toNat)
  case atStart => exact ⟨_, 0, nq, by omega, rfl, rfl, rfl⟩
  case round =>
    obtain ⟨m, k, q, hk, rfl, rfl, rfl⟩ := hrel
    by_cases hlt : k < nA
    · obtain ⟨b, o, rfl, hb, hc⟩ := HF.out.2 (by omega)
      have hx := hc k hlt
      have q4 := hx.c4
      have q5 := hx.c5
      clear hx hc
      by_cases hm : m < 1048576
      · go_wp2
        go_quiet (fail)
        go_wp2
        go_roundw
        case rel => exact ⟨_, k + 1, _, by omega, rfl, by go_num, rfl⟩
        case measure => simp [intOf]; omega
      · go_wp2
        go_returns
        exact ⟨_, rfl, bc_box⟩
    · go_wp2
      go_returns
      exact ⟨_, rfl, bc_box⟩
end Go.Proofs.Ytabbceinagakfaa.K
