/- quorumref1.Locks. -/
import Derived.Test.YtabbceinagakfaaProg
import Derived.Below
import Derived.WalkKit
import Derived.KernelRfl
import Derived.RowKit
import Derived.RowKit3
import Derived.Tactics
import Derived.Deep.QuietTactic
import Derived.BigQuiet
import Derived.OwnWalk
import Derived.Outline
import Derived.Handy
import Derived.StillTailTactics
import Derived.Deep.RegionHeld3
import Derived.Deep.DeepCutAuto
import Derived.Deep.CutBlock
import Derived.Shelf.Abstract
import Derived.Shelf.SlSortCmp.QuietGrown
import Derived.Lib.SmallJoins
import Derived.SliceStrings
import Derived.ArgAppend
import Derived.Deep.Slices
import Derived.ChangeSame
import Derived.Lib.Strings
import Derived.Test.YtabbceinagakfaaD5
import Derived.Test.YtabbceinagakfaaP1
namespace Go.Proofs.Ytabbceinagakfaa.K
open Go.RowKit Go.Proofs.YtabbceinagakfaaS
set_option linter.unusedSimpArgs false
set_option linter.unusedVariables false
attribute [local go_sem] s_leq s_gtr s_geq s_maxr s_minr
attribute [local go_sem] bc_alloc2 bc_alloc3 s_alloc_drewN s_setCell_drewN bc_alloc bc_drewN bc_drew

theorem share_over (lo hi : ByteArray) (top : Bool) (lo' hi' : ByteArray) (top' : Bool) : sharesB lo hi top lo' hi' top' = overB lo hi top lo' hi' top' := by
  cases top <;> cases top' <;> simp [sharesB, emptyB, overB, meetHi, smx_gt, smx_lt, smn_lt, lt_irr]
theorem over_sym (lo hi : ByteArray) (top : Bool) (lo' hi' : ByteArray) (top' : Bool) : overB lo hi top lo' hi' top' = overB lo' hi' top' lo hi top := by
  simp only [overB, smx_gt]
  cases top <;> cases top' <;> cases lt lo hi <;> cases lt lo' hi <;> cases lt lo hi' <;> cases lt lo' hi' <;> rfl
theorem modes {m : Int} (h : modeB m = true) : m = 1 ∨ m = 2 ∨ m = 3 := by simp [modeB] at h; omega
theorem fit_tog {a b : Int} (ha : modeB a = true) (hb : modeB b = true) : fitR a b = togB b a := by
  rcases modes ha with rfl | rfl | rfl <;> rcases modes hb with rfl | rfl | rfl <;> simp [fitR, togB, wrap64]
theorem isL_mode {x : LockV} (h : isL x = true) : modeB x.mode = true := by simp [isL] at h; exact h.2.2.2
theorem eqR_sym (x y : LockV) : eqR x y = eqR y x := by
  simp only [eqR]
  rw [BEq.comm (a := x.lo.toList), BEq.comm (a := x.hi.toList), BEq.comm (a := x.top)]
theorem beq_sym (a b : Int) : (a == b) = (b == a) := BEq.comm
theorem bad_ne {x y : LockV} (h : (y.table == x.table) = false) : badL x y = false := by
  rw [beq_sym] at h
  simp [badL, sameL, clashL, h]
theorem bad_same {x y : LockV} (h : (y.table == x.table) = true) (h2 : (y.owner == x.owner) = true) : badL x y = eqR y x := by
  rw [beq_sym] at h h2
  simp [badL, sameL, clashL, h, h2, eqR_sym x y]
theorem bad_diff {x y : LockV} (h : (y.table == x.table) = true) (h2 : (y.owner == x.owner) = false) (hx : isL x = true) (hy : isL y = true) : badL x y = (overB y.lo y.hi y.top x.lo x.hi x.top && !fitR y.mode x.mode) := by
  rw [beq_sym] at h h2
  rw [fit_tog (isL_mode hy) (isL_mode hx), over_sym]
  simp [badL, sameL, clashL, h, h2, share_over, Bool.and_comm]
theorem any_notL {L : List LockV} {k : Nat} (hk : k < L.length) (h : isL L[k]! = false) : (L.any fun x => !isL x) = true := by
  rw [getI hk] at h
  exact List.any_eq_true.2 ⟨L[k], List.getElem_mem hk, by simp [h]⟩
theorem any_allL {L : List LockV} (h : ∀ j, j < L.length → isL L[j]! = true) : (L.any fun x => !isL x) = false := by
  rw [List.any_eq_false]
  intro x hx
  obtain ⟨j, hj, rfl⟩ := List.mem_iff_getElem.1 hx
  have := h j hj
  rw [getI hj] at this
  simp [this]
theorem take_hit {L : List LockV} {i k : Nat} (hk : k < i) (hi : i < L.length) {p : LockV → Bool} (h : p L[k]! = true) : (L.take i).any p = true := by
  rw [getI (by omega)] at h
  exact List.any_eq_true.2 ⟨L[k], List.mem_take_iff_getElem.2 ⟨k, by omega, rfl⟩, h⟩
theorem take_miss {L : List LockV} {i : Nat} {p : LockV → Bool} (hi : i ≤ L.length) (h : ∀ k, k < i → p L[k]! = false) : (L.take i).any p = false := by
  rw [List.any_eq_false]
  intro x hx
  obtain ⟨j, hj, rfl⟩ := List.mem_iff_getElem.1 hx
  rw [List.length_take] at hj
  have := h j (by omega)
  rw [getI (by omega)] at this
  rw [List.getElem_take]
  simp [this]
open Go.Sort in
theorem alloc2_grow (W : World) (a b : Obj) : (W.alloc a).alloc b = grow (W.drewN 0) #[a, b] := by
  rw [alloc_eq_grow, alloc_eq_grow, grow_grow]
  rfl
open Go.Sort in
theorem bc_grow {b w : World} (h : BelowC b w) (os : Array Obj) : BelowC b (grow w os) :=
  ⟨h.os, h.tape, h.output, Nat.le_trans h.size (by simp [grow]), fun k hk => (heap_grow_old w os (Nat.lt_of_lt_of_le hk h.size)).trans (h.block k hk)⟩
open Go.Sort in
theorem rOverG (lo hi : ByteArray) (top : Bool) (lo' hi' : ByteArray) (top' : Bool) (W : World) : Calls Try.prog 21 #[rng lo hi top, rng lo' hi' top'] W fun e w' => e = .returned (.bool (overB lo hi top lo' hi' top')) ∧ ∃ q os', w' = grow (W.drewN q) os' := by
  cases top <;> cases top'
  all_goals
    go_enter Try.func21, Try.ntmps21
    go_wp2
    all_goals
      go_returns
      exact ⟨by simp [overB, lt, *], 0, #[_, _], alloc2_grow _ _ _⟩
open Go.Sort in
theorem rFitG (a b : Int) (W : World) : Calls Try.prog 22 #[.int .i64 a, .int .i64 b] W fun e w' => e = .returned (.bool (fitR a b)) ∧ ∃ q os', w' = grow (W.drewN q) os' := by
  go_enter Try.func22, Try.ntmps22
  go_wp2
  go_returns
  exact ⟨rfl, 0, #[], by rw [grow_empty]; rfl⟩
set_option maxRecDepth 100000 in
set_option maxHeartbeats 4000000 in
theorem rLocks (A : Option Addr) (n c : Nat) (L : List LockV) (w : World) (h : Lks w A n L) : Calls Try.prog 9 #[.slice A n c] w (Ret (.bool (mayL L)) w) := by
  have hn := h.2.1
  have H := hid h
  have HL := hid h.1
  clear h
  have h0 := bc_refl w
  go_enter Try.func9, Try.ntmps9
  go_wp2_with fail
  go_loopw [3, 4] (fun u _ wr => ∃ i : Nat, (i ≤ n ∧ i ≤ 201) ∧ u = .int .i64 i ∧ BelowC w wr ∧ Hid (∀ j, j < i → isL L[j]! = true ∧ (L.take j).any (badL L[j]!) = false)) (fun u _ _ => n - (intOf u).toNat)
  case atStart => exact ⟨0, by omega, rfl, h0, hid (fun j hj => absurd hj (by omega))⟩
  case round =>
    obtain ⟨i, hi, rfl, HI, HA⟩ := hrel
    rename World => wI
    by_cases hlt : i < n
    rotate_left
    · have HN : Hid (mayL L = decide ((n : Int) ≤ 200)) := hid (by
        have e1 := any_allL (L := L) (fun j hj => (HA.out j (by have := HL.out; omega)).1)
        have e2 := pairsL_all (L := L) (n := L.length) (fun j hj => (HA.out j (by have := HL.out; omega)).2)
        rw [mayL, e1, e2, ← HL.out]
        simp)
      go_wp2_with fail
      go_returns
      exact ⟨by rw [HN.out]; rfl, HI⟩
    by_cases h200 : (i : Int) ≤ 200
    rotate_left
    · have hb2 : decide ((i : Int) ≤ 200) = false := decide_eq_false (by omega)
      have HN : Hid (mayL L = false) := hid (by
        have : ¬ ((L.length : Nat) : Int) ≤ 200 := by have := HL.out; omega
        simp only [mayL, decide_eq_false this, Bool.false_and])
      have hnn : ¬ (n : Int) ≤ 200 := by omega
      go_wp2_with fail
      go_returns
      exact ⟨by rw [HN.out]; simp; try omega, HI⟩
    have hb2 : decide ((i : Int) ≤ 200) = true := decide_eq_true (by omega)
    obtain ⟨b, o, rfl, hb0, hcs⟩ := H.out.2.2 (by omega)
    have hil : i < L.length := by have := HL.out; omega
    have HIL := hid hil
    have hx := hcs i hil
    have HX := hid (getI hil)
    generalize L[i] = x at hx HX
    have HCS := hid hcs
    clear hcs hil
    have qx0 := bc_cell hx.c0 hb0
    have qx1 := bc_cell hx.c1 hb0
    have qx2 := bc_cell hx.c2 hb0
    have qx3 := bc_cell hx.c3 hb0
    have qx4 := bc_cell hx.c4 hb0
    have qx5 := bc_cell hx.c5 hb0
    clear hx
    cases hxl : isL x
    · go_wp2_with (go_at_call 10; (with_reducible refine (rLock x _).mono ?_); rintro e v1 ⟨rfl, hb⟩; have HY : BelowC w v1 := bc_step (by repeat (with_reducible first | assumption | exact bc_refl _ | apply bc_alloc | apply bc_drewN | apply bc_drew)) hb; clear hb)
      go_returns
      exact ⟨by rw [mayL, any_notL (L := L) (k := i) HIL.out (by rw [HX.out]; exact hxl)]; simp, HY⟩
    · have HXL := hid hxl
      clear hxl
      go_wp2_with (go_at_call 10; (with_reducible refine (rLock x _).mono ?_); rintro e v1 ⟨rfl, hb⟩; rw [HXL.out]; have HY : BelowC w v1 := bc_step (by repeat (with_reducible first | assumption | exact bc_refl _ | apply bc_alloc | apply bc_drewN | apply bc_drew)) hb; clear hb)
      go_loopw [4] (fun u wr => ∃ k : Nat, k ≤ i ∧ u = .int .i64 k ∧ BelowC w wr ∧ Hid (∀ j, j < k → badL x L[j]! = false)) (fun u _ => i - (intOf u).toNat)
      case atStart => exact ⟨0, by omega, rfl, HY, hid (fun j hj => absurd hj (by omega))⟩
      case round =>
        clear HY HI
        obtain ⟨k, hk, rfl, HK, HB⟩ := hrel
        rename World => wK
        by_cases hki : k < i
        rotate_left
        · have HN := hid (take_miss (L := L) (p := badL x) (i := i) (Nat.le_of_lt HIL.out) (fun j hj => HB.out j (by omega)))
          go_wp2_with fail
          go_roundw
          case rel =>
            refine ⟨i + 1, by omega, by go_num, HK, hid fun j hj => ?_⟩
            by_cases e : j = i
            · subst e; rw [HX.out]; exact ⟨HXL.out, HN.out⟩
            · exact HA.out j (by omega)
          case measure => simp [intOf]; omega
        have hkl : k < L.length := by have := HIL.out; omega
        have HKL := hid hkl
        have hy := HCS.out k hkl
        have HYE := hid (getI hkl)
        generalize L[k] = y at hy HYE
        have HYL : Hid (isL y = true) := hid (by have := (HA.out k hki).1; rw [HYE.out] at this; exact this)
        clear hkl
        have qy0 := bc_cell hy.c0 hb0
        have qy1 := bc_cell hy.c1 hb0
        have qy2 := bc_cell hy.c2 hb0
        have qy3 := bc_cell hy.c3 hb0
        have qy4 := bc_cell hy.c4 hb0
        have qy5 := bc_cell hy.c5 hb0
        clear hy
        have i1 : (k : Int) < (n : Int) := by omega
        have i2 : (i : Int) < (n : Int) := by omega
        go_upto_region 9 with (fail)
        go_cut [36] (fun u wc => u = .bool (!(y.table == x.table)) ∧ BelowC w wc)
        case first =>
          as_aux_lemma =>
          go_quiet (fail)
          go_wp2_with fail
          go_meet
          case rel => exact ⟨rfl, bc_drewN HK _⟩
        case rest =>
        clear HK
        obtain ⟨rfl, HK⟩ := hcut
        rename World => wK2
        have hrt : (y.table == x.table) = true ∨ (y.table == x.table) = false := by cases (y.table == x.table) <;> simp
        generalize hT : (y.table == x.table) = bt at hrt
        have HT := hid hT
        clear hT hrt
        cases bt
        · go_wp2_with fail
          go_roundw
          case rel =>
            refine ⟨k + 1, by omega, by go_num, HK, hid fun j hj => ?_⟩
            by_cases e : j = k
            · subst e; rw [HYE.out]; exact bad_ne HT.out
            · exact HB.out j (by omega)
          case measure => simp [intOf]; omega
        go_upto_region 10 with (fail)
        go_cut [47] (fun u wc => u = .bool (y.owner == x.owner) ∧ BelowC w wc)
        case first =>
          as_aux_lemma =>
          go_quiet (fail)
          go_wp2_with fail
          go_meet
          case rel => exact ⟨rfl, bc_drewN HK _⟩
        case rest =>
        clear HK
        obtain ⟨rfl, HK⟩ := hcut
        rename World => wK3
        generalize hO : (y.owner == x.owner) = bo
        have HO := hid hO
        clear hO
        cases bo
        · go_upto_region 13 with (fail)
          go_cut [83] (fun u wc => u = .bool (overB y.lo y.hi y.top x.lo x.hi x.top && !fitR y.mode x.mode) ∧ BelowC w wc)
          case first =>
            as_aux_lemma =>
            have hmx : Try.prog.follows .mixedOrders = true := by kernel_rfl
            have hbk : b < wK3.heap.size := bc_lt HK hb0
            have rx0 := fun n os => cell_grown hbk (qx0 _ HK) n os
            have rx1 := fun n os => cell_grown hbk (qx1 _ HK) n os
            have rx2 := fun n os => cell_grown hbk (qx2 _ HK) n os
            have rx3 := fun n os => cell_grown hbk (qx3 _ HK) n os
            have rx4 := fun n os => cell_grown hbk (qx4 _ HK) n os
            have rx5 := fun n os => cell_grown hbk (qx5 _ HK) n os
            have ry0 := fun n os => cell_grown hbk (qy0 _ HK) n os
            have ry1 := fun n os => cell_grown hbk (qy1 _ HK) n os
            have ry2 := fun n os => cell_grown hbk (qy2 _ HK) n os
            have ry3 := fun n os => cell_grown hbk (qy3 _ HK) n os
            have ry4 := fun n os => cell_grown hbk (qy4 _ HK) n os
            have ry5 := fun n os => cell_grown hbk (qy5 _ HK) n os
            clear qx0 qx1 qx2 qx3 qx4 qx5 qy0 qy1 qy2 qy3 qy4 qy5
            have cO := fun W => rOverG y.lo y.hi y.top x.lo x.hi x.top W
            cases hov : overB y.lo y.hi y.top x.lo x.hi x.top
            all_goals
              simp only [hov] at cO
              have CO := hid cO
              clear cO
              refine wp_region_quiet_grown (by assumption) (by kernel_rfl) ?_
              repeat (go_big_quiet_step (first | (go_at_call 21; refine Calls.grown_of (CO.out _)) | (go_at_call 22; refine Calls.grown_of (rFitG _ _ _))))
              refine wpQuiet_nil ?_
              intro _ hw'
              obtain ⟨⟨nq, osq⟩, rfl⟩ := hw'
              go_wp2_with fail
              go_meet
              case rel => exact ⟨by simp [hov], bc_grow (bc_drewN HK _) _⟩
          case rest =>
          clear HK
          obtain ⟨rfl, HK⟩ := hcut
          rename World => wK4
          have hbd := bad_diff HT.out HO.out HXL.out HYL.out
          rw [← hbd]
          clear hbd
          generalize hB2 : badL x y = bb
          have HB2 := hid hB2
          clear hB2
          cases bb
          · go_wp2_with fail
            go_roundw
            case rel =>
              refine ⟨k + 1, by omega, by go_num, HK, hid fun j hj => ?_⟩
              by_cases e : j = k
              · subst e; rw [HYE.out]; exact HB2.out
              · exact HB.out j (by omega)
            case measure => simp [intOf]; omega
          · go_wp2_with fail
            go_returns
            exact ⟨by rw [mayL, pairsL_miss (L := L) (k := i) (n := L.length) HIL.out (by rw [HX.out]; exact take_hit hki HIL.out (by rw [HYE.out]; exact HB2.out))]; simp, HK⟩
        · go_upto_region 11 with (fail)
          go_cut [58] (fun u wc => u = .bool (eqR y x) ∧ BelowC w wc)
          case first =>
            as_aux_lemma =>
            cases e1 : (y.lo.toList == x.lo.toList) <;> cases e2 : (y.hi.toList == x.hi.toList) <;> cases e3 : (y.top == x.top)
            all_goals
              go_region_held3 (fun w' => BelowC w w') (repeat (with_reducible first | assumption | exact bc_refl _ | apply bc_alloc | apply bc_drewN | apply bc_drew)) (fail)
            all_goals
              go_wp2_with fail
              go_meet
              case rel => exact ⟨by simp [eqR, e1, e2, e3], by with_reducible assumption⟩
          case rest =>
          clear HK
          obtain ⟨rfl, HK⟩ := hcut
          rename World => wK4
          have hbd := bad_same HT.out HO.out
          rw [← hbd]
          clear hbd
          generalize hB2 : badL x y = bb
          have HB2 := hid hB2
          clear hB2
          cases bb
          · go_wp2_with fail
            go_roundw
            case rel =>
              refine ⟨k + 1, by omega, by go_num, HK, hid fun j hj => ?_⟩
              by_cases e : j = k
              · subst e; rw [HYE.out]; exact HB2.out
              · exact HB.out j (by omega)
            case measure => simp [intOf]; omega
          · go_wp2_with fail
            go_returns
            exact ⟨by rw [mayL, pairsL_miss (L := L) (k := i) (n := L.length) HIL.out (by rw [HX.out]; exact take_hit hki HIL.out (by rw [HYE.out]; exact HB2.out))]; simp, HK⟩
end Go.Proofs.Ytabbceinagakfaa.K
