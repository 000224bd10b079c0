/- LockFits. -/
import Derived.Test.YtabbceinagakfaaProg
import Derived.Below
import Derived.WalkKit
import Derived.KernelRfl
import Derived.RowKit
import Derived.RowKit3
import Derived.Tactics
import Derived.Deep.QuietTactic
import Derived.BigQuiet
import Derived.OwnWalk
import Derived.Outline
import Derived.Handy
import Derived.StillTailTactics
import Derived.Deep.RegionHeld3
import Derived.Deep.DeepCutAuto
import Derived.Deep.CutBlock
import Derived.Shelf.Abstract
import Derived.Shelf.SlSortCmp.QuietGrown
import Derived.Lib.SliceRun
import Derived.Sort.OwnSortedInts
import Derived.Lib.SlicesCompact
import Derived.Lib.SmallJoins
import Derived.SliceStrings
import Derived.ArgAppend
import Derived.Deep.Slices
import Derived.ChangeSame
import Derived.Lib.Strings
import Derived.Test.YtabbceinagakfaaD30
namespace Go.Proofs.Ytabbceinagakfaa.K
open Go.RowKit Go.Proofs.YtabbceinagakfaaS
set_option linter.unusedSimpArgs false
set_option linter.unusedVariables false
attribute [local go_sem] s_leq s_gtr s_geq s_maxr s_minr
attribute [local go_sem] bc_alloc2 bc_alloc3 s_alloc_drewN s_setCell_drewN bc_alloc bc_drewN bc_drew

theorem box_rules {v1 : World} {g : Nat} {x : LockV} (h : Box6 v1 g x) : (∀ w', BelowC v1 w' → w'.cell? ⟨g, 0, none⟩ = some (.int .i64 x.owner)) ∧ (∀ w', BelowC v1 w' → w'.cell? ⟨g, 1, none⟩ = some (.int .i64 x.table)) ∧ (∀ w', BelowC v1 w' → w'.cell? ⟨g, 2, none⟩ = some (.string x.lo)) ∧ (∀ w', BelowC v1 w' → w'.cell? ⟨g, 3, none⟩ = some (.string x.hi)) ∧ (∀ w', BelowC v1 w' → w'.cell? ⟨g, 4, none⟩ = some (.bool x.top)) ∧ (∀ w', BelowC v1 w' → w'.cell? ⟨g, 5, none⟩ = some (.int .i64 x.mode)) :=
  ⟨fun w' hw => (h.below hw).c0, fun w' hw => (h.below hw).c1, fun w' hw => (h.below hw).c2, fun w' hw => (h.below hw).c3, fun w' hw => (h.below hw).c4, fun w' hw => (h.below hw).c5⟩
/-- After k of the owners in the way are freed. -/
def Freed (L F : List LockV) (os : List Int) (k : Nat) : Prop := mayL F = true ∧ (∀ y ∈ F, y ∈ L ∧ ∀ j (hj : j < os.length), j < k → y.owner ≠ os[j]) ∧ F.length ≤ L.length
theorem freed_start {L : List LockV} {os : List Int} (h : mayL L = true) : Freed L L os 0 := ⟨h, fun y hy => ⟨hy, fun j _ hj => absurd hj (by omega)⟩, Nat.le_refl _⟩
theorem freed_step {L F : List LockV} {os : List Int} {k : Nat} (h : Freed L F os k) (hk : k < os.length) : Freed L (ownF F os[k] false) os (k + 1) := by
  refine ⟨may_filter _ h.1, fun y hy => ?_, Nat.le_trans (List.length_filter_le _ _) h.2.2⟩
  obtain ⟨hy1, hy2⟩ := List.mem_filter.1 hy
  obtain ⟨h1, h2⟩ := h.2.1 y hy1
  refine ⟨h1, fun j hj hjk => ?_⟩
  by_cases e : j = k
  · subst e
    intro e
    simp [e] at hy2
  · exact h2 j hj (by omega)
theorem freed_end {L F : List LockV} {x : LockV} {k : Nat} (h : Freed L F (othersL L x) k) (hk : k = (othersL L x).length) : ∀ y ∈ F, clashL x y = false := by
  intro y hy
  obtain ⟨h1, h2⟩ := h.2.1 y hy
  cases hc : clashL x y
  · rfl
  · have hm := mem_others.2 ⟨y, h1, hc, rfl⟩
    obtain ⟨j, hj, e⟩ := List.mem_iff_getElem.1 hm
    exact absurd e.symm (h2 j hj (by omega))
set_option maxRecDepth 100000 in
set_option maxHeartbeats 40000000 in
theorem Fits (AL AA : Option Addr) (nL cL nA cA : Nat) (L : List LockV) (F : Nat → ActV) (w : World) (hL : Lks w AL nL L) (hc : nL ≤ cL) (hF : Acts w AA nA F) : Calls Try.prog 3 #[.agg #[.slice AL nL cL, .slice AA nA cA]] w (Ret (.bool true) w) := by
  have hn := hF.1
  have HL := hid hL
  have HF := hid hF
  have HCL := hid hc
  clear hL hF hc
  obtain ⟨wb, hA, hAA, hsz, rr0, rr1⟩ : ∃ wb : World, BelowC w wb ∧ BelowC wb (w.alloc (.cells #[.slice AL nL cL, .slice AA nA cA] 25)) ∧ w.heap.size + 1 ≤ wb.heap.size ∧ (∀ w', BelowC wb w' → w'.cell? ⟨w.heap.size, 0, none⟩ = some (.slice AL nL cL)) ∧ (∀ w', BelowC wb w' → w'.cell? ⟨w.heap.size, 1, none⟩ = some (.slice AA nA cA)) := ⟨_, bc_alloc (bc_refl _) _, bc_refl _, by simp, bc_cell (by go_simp) (by first | (simp; done) | (simp; omega)), bc_cell (by go_simp) (by first | (simp; done) | (simp; omega))⟩
  have HA := hid hA
  cases hm : mayL L
  · go_enter Try.func3, Try.ntmps3
    go_wp2_with (first | (go_at_call 8; refine (Heavy AL AA nL cL nA cA L F _ (HL.out.below (bc_trans hA (by repeat (with_reducible first | assumption | exact bc_refl _ | apply bc_alloc | apply bc_drewN | apply bc_drew)))) (HF.out.below (bc_trans hA (by repeat (with_reducible first | assumption | exact bc_refl _ | apply bc_alloc | apply bc_drewN | apply bc_drew))))).mono ?_; rintro e v1 ⟨hv, rfl, hb⟩; cases hv; all_goals (have HX1 : BelowC wb v1 := bc_trans (by repeat (with_reducible first | assumption | exact bc_refl _ | apply bc_alloc | apply bc_drewN | apply bc_drew)) hb; clear hb)) | (go_at_call 9; refine (rLocks AL nL cL L _ (HL.out.below (bc_trans hA (by repeat (with_reducible first | assumption | exact bc_refl _ | apply bc_alloc | apply bc_drewN | apply bc_drew))))).mono ?_; rintro e v2 ⟨rfl, hb⟩; rw [hm]; have HX2 : BelowC wb v2 := bc_step (by repeat (with_reducible first | assumption | exact bc_refl _ | apply bc_alloc | apply bc_drewN | apply bc_drew)) hb; clear hb))
    all_goals
      go_returns
      first | exact ⟨rfl, bc_trans HA.out HX2⟩ | exact ⟨rfl, bc_trans HA.out HX1⟩
  have HM := hid hm
  go_enter Try.func3, Try.ntmps3
  go_upto_region 3 with (first | (go_at_call 8; refine (Heavy AL AA nL cL nA cA L F _ (HL.out.below (bc_trans hA (by repeat (with_reducible first | assumption | exact bc_refl _ | apply bc_alloc | apply bc_drewN | apply bc_drew)))) (HF.out.below (bc_trans hA (by repeat (with_reducible first | assumption | exact bc_refl _ | apply bc_alloc | apply bc_drewN | apply bc_drew))))).mono ?_; rintro e v1 ⟨hv, rfl, hb⟩; cases hv; all_goals (have HX1 : BelowC wb v1 := bc_trans (by repeat (with_reducible first | assumption | exact bc_refl _ | apply bc_alloc | apply bc_drewN | apply bc_drew)) hb; clear hb)) | (go_at_call 9; refine (rLocks AL nL cL L _ (HL.out.below (bc_trans hA (by repeat (with_reducible first | assumption | exact bc_refl _ | apply bc_alloc | apply bc_drewN | apply bc_drew))))).mono ?_; rintro e v2 ⟨rfl, hb⟩; rw [hm]; have HX2 : BelowC wb v2 := bc_step (by repeat (with_reducible first | assumption | exact bc_refl _ | apply bc_alloc | apply bc_drewN | apply bc_drew)) hb; clear hb))
  rotate_left
  · go_returns
    exact ⟨rfl, bc_trans HA.out HX1⟩
  have hnL : nL ≤ 200 := by have h1 := HL.out.1; have h2 := (may_all HM.out).2; omega
  go_wp2_with fail
  go_loopw [3, 4, 5, 6, 7, 8, 9, 10, 11, 12, 13, 14, 15, 16, 17] (fun y3 y4 _ _ _ _ _ _ _ _ _ _ _ _ _ wr => ∃ (i : Nat) (A' : Option Addr) (n' c' : Nat) (L' : List LockV), i ≤ nA ∧ y3 = .slice A' n' c' ∧ y4 = .int .i64 i ∧ Lks wr A' n' L' ∧ Hid (n' ≤ c') ∧ Hid (mayL L' = true) ∧ BelowC wb wr) (fun _ y _ _ _ _ _ _ _ _ _ _ _ _ _ _ => nA - (intOf y).toNat)
  case atStart => exact ⟨0, AL, nL, cL, L, by omega, rfl, rfl, HL.out.below (bc_trans HA.out HX2), HCL, HM, HX2⟩
  case round =>
    clear HX1 HX2 hm
    obtain ⟨i, A', n', c', L', hi, rfl, rfl, HO, HC, HM', HW⟩ := hrel
    rename World => wI
    have HOw := hid HO
    clear HO
    have hn' : n' ≤ 200 := by have h1 := HOw.out.1; have h2 := (may_all HM'.out).2; omega
    have HWW := hid HW
    by_cases hlt : i < nA
    rotate_left
    · have d1 : decide ((i : Int) < (nA : Int)) = false := decide_eq_false (by omega)
      go_wp2_with (go_at_call 16; refine (wakes _).mono ?_; rintro e v9 ⟨rfl, hb⟩; have HX9 : BelowC wb v9 := bc_step (by repeat (with_reducible first | assumption | exact bc_refl _ | apply bc_alloc | apply bc_drewN | apply bc_drew)) hb; clear hb)
      go_returns
      exact ⟨rfl, bc_trans HA.out HX9⟩
    have d1 : decide ((i : Int) < (nA : Int)) = true := decide_eq_true (by omega)
    by_cases h14 : (i : Int) < 14
    rotate_left
    · have d2 : decide ((i : Int) < 14) = false := decide_eq_false h14
      go_wp2_with (go_at_call 16; refine (wakes _).mono ?_; rintro e v9 ⟨rfl, hb⟩; have HX9 : BelowC wb v9 := bc_step (by repeat (with_reducible first | assumption | exact bc_refl _ | apply bc_alloc | apply bc_drewN | apply bc_drew)) hb; clear hb)
      go_returns
      exact ⟨rfl, bc_trans HA.out HX9⟩
    have d2 : decide ((i : Int) < 14) = true := decide_eq_true h14
    obtain ⟨b, o, rfl, hb0, hcs⟩ := (HF.out.below (bc_trans HA.out HW)).2 (by omega)
    have hx0 := hcs i hlt
    generalize F i = a at hx0
    obtain ⟨ad, ao, x⟩ := a
    obtain ⟨-, -, s2, s3, s4, s5, s6, s7⟩ := hx0
    clear hcs
    have i1 : (i : Int) < (nA : Int) := by omega
    obtain ⟨wx, hIx, hXX, hsx, r0, r1, r2, r3, r4, r5⟩ : ∃ wx : World, BelowC wI wx ∧ BelowC wx (wI.alloc (.cells #[.int .i64 x.owner, .int .i64 x.table, .string x.lo, .string x.hi, .bool x.top, .int .i64 x.mode] 31)) ∧ wI.heap.size + 1 ≤ wx.heap.size ∧ (∀ w', BelowC wx w' → w'.cell? ⟨wI.heap.size, 0, none⟩ = some (.int .i64 x.owner)) ∧ (∀ w', BelowC wx w' → w'.cell? ⟨wI.heap.size, 1, none⟩ = some (.int .i64 x.table)) ∧ (∀ w', BelowC wx w' → w'.cell? ⟨wI.heap.size, 2, none⟩ = some (.string x.lo)) ∧ (∀ w', BelowC wx w' → w'.cell? ⟨wI.heap.size, 3, none⟩ = some (.string x.hi)) ∧ (∀ w', BelowC wx w' → w'.cell? ⟨wI.heap.size, 4, none⟩ = some (.bool x.top)) ∧ (∀ w', BelowC wx w' → w'.cell? ⟨wI.heap.size, 5, none⟩ = some (.int .i64 x.mode)) := ⟨_, bc_alloc (bc_refl _) _, bc_refl _, by simp, bc_cell (by go_simp) (by first | (simp; done) | (simp; omega)), bc_cell (by go_simp) (by first | (simp; done) | (simp; omega)), bc_cell (by go_simp) (by first | (simp; done) | (simp; omega)), bc_cell (by go_simp) (by first | (simp; done) | (simp; omega)), bc_cell (by go_simp) (by first | (simp; done) | (simp; omega)), bc_cell (by go_simp) (by first | (simp; done) | (simp; omega))⟩
    cases hx : isL x
    · go_wp2_with (go_at_call 10; (with_reducible refine (rLock x _).mono ?_); rintro e v3 ⟨rfl, hb⟩; rw [hx]; have HV3 : BelowC wx v3 := bc_step (by repeat (with_reducible first | assumption | exact bc_refl _ | apply bc_alloc | apply bc_drewN | apply bc_drew)) hb; clear hb)
      go_roundw
      case rel => exact ⟨i + 1, A', n', c', L', by omega, rfl, by go_num, HOw.out.below (bc_trans hIx HV3), HC, HM', bc_trans HWW.out (bc_trans hIx HV3)⟩
      case measure => simp [intOf]; omega
    have GF : Hid (goodL L' x = true) := hid (by simp [goodL, HM'.out, hx])
    have BF : Hid (blockL L' x = othersL L' x) := hid (by simp [blockL, GF.out])
    have TL : Hid (takeL L' x = (takeP L' x).1) := hid (by simp [takeL, GF.out])
    have TE : Hid (takeE L' x = (takeP L' x).2) := hid (by simp [takeE, GF.out])
    have T8 := hid (take_eight L' x)
    have T0 := hid (take_zero HM'.out hx)
    go_upto_region 11 with (first | (go_at_call 10; (with_reducible refine (rLock x _).mono ?_); rintro e v3 ⟨rfl, hb⟩; rw [hx]; have HV3 : BelowC wx v3 := bc_step (by repeat (with_reducible first | assumption | exact bc_refl _ | apply bc_alloc | apply bc_drewN | apply bc_drew)) hb; clear hb) | (go_at_call 11; refine (Block A' n' c' L' x _ (HOw.out.below (bc_trans hIx (by repeat (with_reducible first | assumption | exact bc_refl _ | apply bc_alloc | apply bc_drewN | apply bc_drew)))) HC.out (by omega)).mono ?_; rw [GF.out, BF.out]; rintro e v4 ⟨v, rfl, ho, hb⟩; obtain ⟨A4, n4, c4, rfl, hn4, -, hL4, -⟩ := ownI_form ho; have HN4 := hid hn4; have HL4 := hid hL4; have HV4 : BelowC wx v4 := bc_trans (by repeat (with_reducible first | assumption | exact bc_refl _ | apply bc_alloc | apply bc_drewN | apply bc_drew)) hb; clear ho hn4 hL4 hb) | (go_at_call 12; refine (Take A' n' c' L' x _ (HOw.out.below (bc_trans hIx (by repeat (with_reducible first | assumption | exact bc_refl _ | apply bc_alloc | apply bc_drewN | apply bc_drew)))) HC.out (by omega)).mono ?_; rw [TL.out, TE.out]; rintro e v5 ⟨v, rfl, ho, hb⟩; obtain ⟨A5, n5, c5, rfl, hn5, hnc5, hL5, -⟩ := own_form ho; have HN5 := hid hn5; have HC5 := hid hnc5; have HL5 := hid hL5; clear ho hn5 hnc5 hL5; have HB5 : BelowC v4 v5 := bc_trans (by repeat (with_reducible first | assumption | exact bc_refl _ | apply bc_alloc | apply bc_drewN | apply bc_drew)) hb; have HV5 : BelowC wx v5 := bc_trans (by repeat (with_reducible first | assumption | exact bc_refl _ | apply bc_alloc | apply bc_drewN | apply bc_drew)) hb; clear hb))
    clear s2 s3 s4 s5 s6 s7
    generalize (takeP L' x).2 = E1 at T8 T0 ⊢
    have e8 : (E1 == 8) = decide (0 < n4) := by rw [T8.out, HN4.out]
    go_cut [71] (fun y wc => y = .bool false ∧ BelowC v5 wc ∧ BelowC wx wc)
    case first =>
      by_cases hn4 : 0 < n4
      · have e8' : (E1 == 8) = true := by rw [e8]; exact decide_eq_true hn4
        have dn : decide ((0 : Int) < (n4 : Int)) = true := decide_eq_true (by omega)
        clear e8
        go_wp2_with ((go_at_call 13; refine (num' _ _).mono ?_; rintro ee _ ⟨rfl, rfl⟩))
        go_meet
        case rel => exact ⟨rfl, bc_refl _, HV5⟩
      · have e8' : (E1 == 8) = false := by rw [e8]; exact decide_eq_false hn4
        have dn : decide ((0 : Int) < (n4 : Int)) = false := decide_eq_false (by omega)
        clear e8
        go_wp2_with ((go_at_call 13; refine (num' _ _).mono ?_; rintro ee _ ⟨rfl, rfl⟩))
        go_meet
        case rel => exact ⟨rfl, bc_refl _, HV5⟩
    case rest =>
    obtain ⟨rfl, HZ5, HVc⟩ := hcut
    have HB5' := hid HB5
    have hn4b : n4 ≤ 9223372036854775807 := HL4.out.2.1
    clear e8 HV3 HV4 HV5 HB5
    go_wp2_with fail
    go_loopw [10, 11, 12, 13] (fun y10 y11 _ _ wr => ∃ (k : Nat) (A : Option Addr) (n c : Nat) (Fk : List LockV), k ≤ n4 ∧ y10 = .slice A n c ∧ y11 = .int .i64 k ∧ Lks wr A n Fk ∧ Hid (n ≤ c) ∧ Hid (Freed L' Fk (othersL L' x) k) ∧ BelowC v5 wr ∧ BelowC wx wr) (fun _ y _ _ _ => n4 - (intOf y).toNat)
    case atStart => exact ⟨0, A', n', c', L', by omega, rfl, rfl, HOw.out.below (bc_trans hIx HVc), HC, hid (freed_start HM'.out), HZ5, HVc⟩
    case round =>
      obtain ⟨k, Ak, nk, ck, Fk, hk, rfl, rfl, HOk, HCk, HFk, HZk, HVk⟩ := hrel
      rename World => wK
      clear HZ5 HVc
      have HOkw := hid HOk
      clear HOk
      have hnk : nk ≤ 200 := by have h1 := HOkw.out.1; have h2 := HFk.out.2.2; have h3 := HOw.out.1; omega
      by_cases hkn : k < n4
      · have dk : decide ((k : Int) < (n4 : Int)) = true := decide_eq_true (by omega)
        have k1 : (k : Int) < (n4 : Int) := by omega
        obtain ⟨g, o2, rfl, hg, hcx⟩ := (HL4.out.below (bc_trans HB5'.out HZk)).2.2 (by omega)
        have hkl : k < (othersL L' x).length := by have := HN4.out; omega
        have hz := hcx k hkl
        have HZ0 := hid (own_ge HM'.out hkl)
        have HST := hid (freed_step HFk.out hkl)
        generalize (othersL L' x)[k] = z at hz HZ0 HST
        have FL : Hid (freeL Fk z = ownF Fk z false) := hid (by simp [freeL, HFk.out.1, HZ0.out])
        have FE : Hid (errI (mayL Fk && decide (0 ≤ z)) = 0) := hid (by simp [errI, HFk.out.1, HZ0.out])
        clear hcx hkl
        go_wp2_with (first | (go_at_call 14; refine (Free Ak nk ck Fk z _ HOkw.out HCk.out (by omega)).mono ?_; rw [FL.out, FE.out]; rintro e v6 ⟨v, rfl, ho, hb⟩; obtain ⟨A6, n6, c6, rfl, hn6, hnc6, hL6, -⟩ := own_form ho; have HN6 := hid hn6; have HC6 := hid hnc6; have HL6 := hid hL6; clear ho hn6 hnc6 hL6; have HZ6 : BelowC v5 v6 := bc_trans (by repeat (with_reducible first | assumption | exact bc_refl _ | apply bc_alloc | apply bc_drewN | apply bc_drew)) hb; have HV6 : BelowC wx v6 := bc_trans (by repeat (with_reducible first | assumption | exact bc_refl _ | apply bc_alloc | apply bc_drewN | apply bc_drew)) hb; clear hb) | (go_at_call 13; refine (num' _ _).mono ?_; rintro ee _ ⟨rfl, rfl⟩))
        go_roundw
        case rel => exact ⟨k + 1, A6, n6, c6, _, by omega, rfl, by go_num, HL6.out, HC6, HST, HZ6, HV6⟩
        case measure => simp [intOf]; omega
      · have dk : decide ((k : Int) < (n4 : Int)) = false := decide_eq_false (by omega)
        have hcl := freed_end HFk.out (by have := HN4.out; omega)
        have GF2 : Hid (goodL Fk x = true) := hid (by simp [goodL, HFk.out.1, hx])
        have TL2 : Hid (takeL Fk x = (takeP Fk x).1) := hid (by simp [takeL, GF2.out])
        have TE2 : Hid (takeE Fk x = (takeP Fk x).2) := hid (by simp [takeE, GF2.out])
        have TF := hid (take_free hcl)
        have TZ := hid (take_zero HFk.out.1 hx)
        clear hcl
        generalize (takeP Fk x).2 = E2 at TE2 TF TZ
        by_cases hE1 : E1 = 0
        all_goals
          first
          | have b1 : (E1 == 0) = true := by simp [hE1]
          | have b1 : (E1 == 0) = false := by simp [hE1]
          have HE1 := hid hE1
          clear hE1
          rcases TF.out with rfl | rfl
          · have MW := hid (TZ.out rfl)
            have CG : Hid (goodL (takeP Fk x).1 x = true) := hid (by simp [goodL, MW.out.1, hx])
            have CC : Hid ((goodL (takeP Fk x).1 x && (takeP Fk x).1.any (heldL x)) = true) := hid (by rw [CG.out, MW.out.2]; rfl)
            have CE : Hid (errI (goodL (takeP Fk x).1 x) = 0) := hid (by rw [CG.out]; rfl)
            generalize (takeP Fk x).1 = M at TL2 MW CC CE
            go_wp2_with (first | (go_at_call 12; refine (Take Ak nk ck Fk x _ (HOkw.out.below (by repeat (with_reducible first | assumption | exact bc_refl _ | apply bc_alloc | apply bc_drewN | apply bc_drew))) HCk.out (by omega)).mono ?_; rw [TL2.out, TE2.out]; rintro e v7 ⟨v, rfl, ho, hb⟩; obtain ⟨A7, n7, c7, rfl, hn7, hnc7, hL7, -⟩ := own_form ho; have HN7 := hid hn7; have HC7 := hid hnc7; have HL7 := hid hL7; clear ho hn7 hnc7 hL7; have HZ7 : BelowC v5 v7 := bc_trans (by repeat (with_reducible first | assumption | exact bc_refl _ | apply bc_alloc | apply bc_drewN | apply bc_drew)) hb; have HV7 : BelowC wx v7 := bc_trans (by repeat (with_reducible first | assumption | exact bc_refl _ | apply bc_alloc | apply bc_drewN | apply bc_drew)) hb; clear hb) | (go_at_call 15; refine (Covers A7 n7 c7 M x _ (HL7.out.below (by repeat (with_reducible first | assumption | exact bc_refl _ | apply bc_alloc | apply bc_drewN | apply bc_drew))) HC7.out).mono ?_; rw [CC.out, CE.out]; rintro e v8 ⟨rfl, hb⟩; have H78 : BelowC v7 v8 := bc_step (by repeat (with_reducible first | assumption | exact bc_refl _ | apply bc_alloc | apply bc_drewN | apply bc_drew)) hb; have HZ8 : BelowC v5 v8 := bc_step (by repeat (with_reducible first | assumption | exact bc_refl _ | apply bc_alloc | apply bc_drewN | apply bc_drew)) hb; have HV8 : BelowC wx v8 := bc_step (by repeat (with_reducible first | assumption | exact bc_refl _ | apply bc_alloc | apply bc_drewN | apply bc_drew)) hb; clear hb) | (go_at_call 9; refine (rLocks A7 n7 c7 M _ (HL7.out.below (by repeat (with_reducible first | assumption | exact bc_refl _ | apply bc_alloc | apply bc_drewN | apply bc_drew)))).mono ?_; rw [MW.out.1]; rintro e v10 ⟨rfl, hb⟩; have HZ10 : BelowC v5 v10 := bc_step (by repeat (with_reducible first | assumption | exact bc_refl _ | apply bc_alloc | apply bc_drewN | apply bc_drew)) hb; have HV10 : BelowC wx v10 := bc_step (by repeat (with_reducible first | assumption | exact bc_refl _ | apply bc_alloc | apply bc_drewN | apply bc_drew)) hb; clear hb) | (go_at_call 13; refine (num' _ _).mono ?_; rintro ee _ ⟨rfl, rfl⟩))
            go_roundw
            case rel => first | exact ⟨i + 1, A5, n5, c5, _, by omega, rfl, by go_num, HL5.out.below HZ10, HC5, hid (T0.out HE1.out).1, bc_trans HWW.out (bc_trans hIx HV10)⟩ | exact ⟨i + 1, A', n', c', L', by omega, rfl, by go_num, HOw.out.below (bc_trans hIx HV10), HC, HM', bc_trans HWW.out (bc_trans hIx HV10)⟩
            case measure => simp [intOf]; omega
          · go_wp2_with (first | (go_at_call 12; refine (Take Ak nk ck Fk x _ (HOkw.out.below (by repeat (with_reducible first | assumption | exact bc_refl _ | apply bc_alloc | apply bc_drewN | apply bc_drew))) HCk.out (by omega)).mono ?_; rw [TL2.out, TE2.out]; rintro e v7 ⟨v, rfl, ho, hb⟩; obtain ⟨A7, n7, c7, rfl, hn7, hnc7, hL7, -⟩ := own_form ho; have HN7 := hid hn7; have HC7 := hid hnc7; have HL7 := hid hL7; clear ho hn7 hnc7 hL7; have HZ7 : BelowC v5 v7 := bc_trans (by repeat (with_reducible first | assumption | exact bc_refl _ | apply bc_alloc | apply bc_drewN | apply bc_drew)) hb; have HV7 : BelowC wx v7 := bc_trans (by repeat (with_reducible first | assumption | exact bc_refl _ | apply bc_alloc | apply bc_drewN | apply bc_drew)) hb; clear hb) | (go_at_call 13; refine (num' _ _).mono ?_; rintro ee _ ⟨rfl, rfl⟩))
            go_roundw
            case rel => first | exact ⟨i + 1, A5, n5, c5, _, by omega, rfl, by go_num, HL5.out.below HZ7, HC5, hid (T0.out HE1.out).1, bc_trans HWW.out (bc_trans hIx HV7)⟩ | exact ⟨i + 1, A', n', c', L', by omega, rfl, by go_num, HOw.out.below (bc_trans hIx HV7), HC, HM', bc_trans HWW.out (bc_trans hIx HV7)⟩
            case measure => simp [intOf]; omega
end Go.Proofs.Ytabbceinagakfaa.K
