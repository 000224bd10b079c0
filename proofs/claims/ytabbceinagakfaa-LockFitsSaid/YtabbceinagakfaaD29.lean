/- only. -/
import Derived.Test.YtabbceinagakfaaProg
import Derived.Below
import Derived.WalkKit
import Derived.KernelRfl
import Derived.RowKit
import Derived.RowKit3
import Derived.Tactics
import Derived.Deep.QuietTactic
import Derived.BigQuiet
import Derived.OwnWalk
import Derived.Outline
import Derived.Handy
import Derived.StillTailTactics
import Derived.Deep.RegionHeld3
import Derived.Deep.DeepCutAuto
import Derived.Deep.CutBlock
import Derived.Shelf.Abstract
import Derived.Shelf.SlSortCmp.QuietGrown
import Derived.Lib.SliceRun
import Derived.Sort.OwnSortedInts
import Derived.Lib.SlicesCompact
import Derived.Lib.SmallJoins
import Derived.SliceStrings
import Derived.ArgAppend
import Derived.Deep.Slices
import Derived.ChangeSame
import Derived.Lib.Strings
import Derived.Test.YtabbceinagakfaaD28
namespace Go.Proofs.Ytabbceinagakfaa.K
open Go.RowKit Go.Proofs.YtabbceinagakfaaS
set_option linter.unusedSimpArgs false
set_option linter.unusedVariables false
attribute [local go_sem] s_leq s_gtr s_geq s_maxr s_minr
attribute [local go_sem] bc_alloc2 bc_alloc3 s_alloc_drewN s_setCell_drewN bc_alloc bc_drewN bc_drew

theorem bc_low {b W w1 : World} {B : Nat} (h : BelowC b W) (hB : b.heap.size ≤ B) (hb : Below B W w1) : BelowC b w1 :=
  ⟨hb.os.trans h.os, hb.tape.trans h.tape, hb.output.trans h.output, Nat.le_trans h.size hb.size, fun k hk => (hb.block k (by omega)).trans (h.block k hk)⟩
theorem pair_set {w1 : World} {g : Nat} {v0 v1 v' : Value} (h0 : w1.cell? ⟨g, 0, none⟩ = some v0) (h1 : w1.cell? ⟨g, 1, none⟩ = some v1) : (w1.setCell ⟨g, 1, none⟩ v').cell? ⟨g, 0, none⟩ = some v0 ∧ (w1.setCell ⟨g, 1, none⟩ v').cell? ⟨g, 1, none⟩ = some v' := by
  refine ⟨?_, World.cell?_setCell_same' _ _ _ (by rw [h1]; rfl)⟩
  rw [World.cell?_setCell_other]
  · exact h0
  · intro e
    cases e
theorem one_act (w : World) (z : ActV) : ActAt (w.alloc (.cells #[.int .i64 z.d, .int .i64 z.o, .int .i64 z.x.owner, .int .i64 z.x.table, .string z.x.lo, .string z.x.hi, .bool z.x.top, .int .i64 z.x.mode] 33)) w.heap.size 0 z :=
  ⟨by simp, by simp, by simp, by simp, by simp, by simp, by simp, by simp⟩
set_option maxRecDepth 100000 in
set_option maxHeartbeats 8000000 in
theorem Only (AL AA AK : Option Addr) (nL cL nA cA nK cK : Nat) (L : List LockV) (F : Nat → ActV) (K : List Int) (w : World) (hL : Lks w AL nL L) (hc : nL ≤ cL) (hbig : nL ≤ 2199023255500) (hF : Acts w AA nA F) (hA : nA ≤ 1759218604400) (hK : Ns w AK nK K) (hK0 : 0 < nK) : Calls Try.prog 19 #[.agg #[.slice AL nL cL, .slice AA nA cA], .slice AK nK cK] w (Ret (.bool true) w) := by
  have hn := hF.1
  have HL := hid hL
  have HF := hid hF
  have HK := hid hK
  have HAN := hid hA
  have HCC := hid hc
  have HBB := hid hbig
  have HK0 := hid hK0
  clear hL hF hK hA hc hbig hK0
  obtain ⟨wb, hA, hAA, hsz, rr0, rr1⟩ : ∃ wb : World, BelowC w wb ∧ BelowC wb (w.alloc (.cells #[.slice AL nL cL, .slice AA nA cA] 25)) ∧ w.heap.size + 1 ≤ wb.heap.size ∧ (∀ w', BelowC wb w' → w'.cell? ⟨w.heap.size, 0, none⟩ = some (.slice AL nL cL)) ∧ (∀ w', BelowC wb w' → w'.cell? ⟨w.heap.size, 1, none⟩ = some (.slice AA nA cA)) := ⟨_, bc_alloc (bc_refl _) _, bc_refl _, by simp, bc_cell (by go_simp) (by first | (simp; done) | (simp; omega)), bc_cell (by go_simp) (by first | (simp; done) | (simp; omega))⟩
  have HA := hid hA
  have hwb : wb.heap.size ≤ w.heap.size + 1 := by have := bc_size hAA; simpa using this
  have HWB := hid hwb
  go_enter Try.func19, Try.ntmps19
  go_wp2_with fail
  go_loopw [6, 7] (fun y _ wr => ∃ (i : Nat) (A' : Option Addr) (n' c' : Nat) (As : List ActV), i ≤ nA ∧ y = .int .i64 i ∧ Hid (OwnA wr (w.heap.size + 2) (.slice A' n' c') As) ∧ Hid (As.length = i) ∧ wr.cell? ⟨w.heap.size + 1, 0, none⟩ = some (.slice AL nL cL) ∧ wr.cell? ⟨w.heap.size + 1, 1, none⟩ = some (.slice A' n' c') ∧ (∀ o, wr.frozen? ⟨w.heap.size + 1, o, none⟩ = false) ∧ BelowC wb wr ∧ w.heap.size + 2 ≤ wr.heap.size) (fun y _ _ => nA - (intOf y).toNat)
  case atStart => exact ⟨0, none, 0, 0, [], by omega, rfl, World.ownsRow_nil _ _ _ _, rfl, by simp, by simp, by simp, bc_alloc hAA _, by simp⟩
  case round =>
    obtain ⟨i, A', n', c', As, hi, rfl, HO, HAs, k0, k1, fz, HW, hsz2⟩ := hrel
    rename World => wI
    have hII := bc_refl wI
    have hg1 : w.heap.size + 1 < wI.heap.size := by omega
    have K0 := hid k0
    have K1 := hid k1
    have FZ := hid fz
    by_cases hlt : i < nA
    · have d1 : decide ((i : Int) < (nA : Int)) = true := decide_eq_true (by omega)
      obtain ⟨b, o, rfl, hb0, hcs⟩ := (HF.out.below (bc_trans HA.out HW)).2 (by omega)
      have hx := hcs i hlt
      generalize F i = a at hx
      have s0 := bc_cell hx.c0 hb0
      have s1 := bc_cell hx.c1 hb0
      have s2 := bc_cell hx.c2 hb0
      have s3 := bc_cell hx.c3 hb0
      have s4 := bc_cell hx.c4 hb0
      have s5 := bc_cell hx.c5 hb0
      have s6 := bc_cell hx.c6 hb0
      have s7 := bc_cell hx.c7 hb0
      clear hcs hx
      have i1 : (i : Int) < (nA : Int) := by omega
      obtain ⟨bk, ok, rfl, hbk, hks⟩ := (HK.out.below (bc_trans HA.out HW)).2.2 HK0.out
      have hjK : i % nK < K.length := by have := HK.out.1; have := Nat.mod_lt i HK0.out; omega
      have hz := hks (i % nK) hjK
      generalize K[i % nK] = kind at hz
      have hj : i % nK < nK := Nat.mod_lt i HK0.out
      have ht := tmod_nat i nK
      generalize i % nK = j at hz hj ht
      have sk := bc_cell hz hbk
      clear hks hz hjK
      have j1 : (j : Int) < (nK : Int) := by omega
      have q0 := bc_cell k0 hg1
      have q1 := bc_cell k1 hg1
      clear k0 k1
      go_wp2_with (at_builtin; refine app23 (B := w.heap.size + 2) rfl (.tmp 31) (.tmp 33) rfl _ As rfl ((HO.out.alloc _).alloc _) (wI.heap.size + 1) ⟨kind, a.o, a.x⟩ (by first | rfl | simp) (by have := one_act (wI.alloc (.cells #[.int .i64 kind, .int .i64 a.o, .int .i64 a.x.owner, .int .i64 a.x.table, .string a.x.lo, .string a.x.hi, .bool a.x.top, .int .i64 a.x.mode] 33)) ⟨kind, a.o, a.x⟩; simpa using this) (by have := HAs.out; have := HAN.out; omega) (by simp; omega) ?_; intro v' w1 hown1 HB1; refine pause ?_)
      unfold Pause
      have p0 := (Below.cell HB1 (p := ⟨w.heap.size + 1, 0, none⟩) (by simp)).trans (q0 _ (bc_alloc2 hII _ _))
      have p1 := (Below.cell HB1 (p := ⟨w.heap.size + 1, 1, none⟩) (by simp)).trans (q1 _ (bc_alloc2 hII _ _))
      have pf := fun o => (Below.frozen HB1 (p := ⟨w.heap.size + 1, o, none⟩) (by simp)).trans (bc_frozen fz hg1 _ (bc_alloc2 hII _ _) o)
      have HBW := hid (bc_low (bc_alloc2 HW _ _) (by omega) HB1)
      have HSZ := hid (Nat.le_trans (by simp; omega) HB1.size : w.heap.size + 2 ≤ w1.heap.size)
      obtain ⟨A2, n2, c2, rfl, hn2, _⟩ := owna_form hown1
      have HOWN := hid hown1
      have HN2 := hid hn2
      clear hown1 hn2 HB1 s0 s1 s2 s3 s4 s5 s6 s7 q0 q1 sk
      go_wp2_with fail
      go_roundw
      case rel => exact ⟨i + 1, A2, n2, c2, _, by omega, by go_num, owna_set HOWN.out (by omega), hid (by simp [HAs.out]), (pair_set p0 p1).1, (pair_set p0 p1).2, fun o => by simpa using pf o, bc_set HBW.out (by omega), by simpa using HSZ.out⟩
      case measure => simp [intOf]; omega
    · have d1 : decide ((i : Int) < (nA : Int)) = false := decide_eq_false (by omega)
      obtain ⟨A2, n2, c2, e2, hn2, hAc⟩ := owna_form HO.out
      cases e2
      have HAc := hid hAc
      clear hn2 hAc
      go_wp2_with (go_at_call 4; refine (Exact AL A' nL cL n' c' L _ _ (HL.out.below (bc_trans HA.out (by repeat (with_reducible first | assumption | exact bc_refl _ | apply bc_alloc | apply bc_drewN | apply bc_drew)))) HCC.out HBB.out HAc.out).mono ?_; rintro e v3 ⟨rfl, hb⟩; have HX3 : BelowC wb v3 := bc_step (by repeat (with_reducible first | assumption | exact bc_refl _ | apply bc_alloc | apply bc_drewN | apply bc_drew)) hb; clear hb)
      go_returns
      exact ⟨rfl, bc_trans HA.out HX3⟩

set_option maxHeartbeats 2000000 in
theorem Frees (AL AA : Option Addr) (nL cL nA cA : Nat) (L : List LockV) (F : Nat → ActV) (w : World) (hL : Lks w AL nL L) (hc : nL ≤ cL) (hbig : nL ≤ 2199023255500) (hF : Acts w AA nA F) (hA : nA ≤ 1759218604400) : Calls Try.prog 5 #[.agg #[.slice AL nL cL, .slice AA nA cA]] w (Ret (.bool true) w) := by
  have HL := hid hL
  have HF := hid hF
  clear hL hF
  obtain ⟨wb, hA0, hAA, hsz, rr0, rr1⟩ : ∃ wb : World, BelowC w wb ∧ BelowC wb (w.alloc (.cells #[.slice AL nL cL, .slice AA nA cA] 25)) ∧ w.heap.size + 1 ≤ wb.heap.size ∧ (∀ w', BelowC wb w' → w'.cell? ⟨w.heap.size, 0, none⟩ = some (.slice AL nL cL)) ∧ (∀ w', BelowC wb w' → w'.cell? ⟨w.heap.size, 1, none⟩ = some (.slice AA nA cA)) := ⟨_, bc_alloc (bc_refl _) _, bc_refl _, by simp, bc_cell (by go_simp) (by first | (simp; done) | (simp; omega)), bc_cell (by go_simp) (by first | (simp; done) | (simp; omega))⟩
  have HA := hid hA0
  go_enter Try.func5, Try.ntmps5
  go_wp2_with (go_at_call 19; refine (Only AL AA _ nL cL nA cA 3 3 L F [0, 1, 5] _ (HL.out.below (bc_trans HA.out (bc_alloc hAA _))) hc hbig (HF.out.below (bc_trans HA.out (bc_alloc hAA _))) hA ⟨rfl, by decide, fun _ => ⟨_, 0, rfl, by simp, fun i hi => by
    match i, hi with
    | 0, _ => simp
    | 1, _ => simp
    | 2, _ => simp⟩⟩ (by decide)).mono ?_; rintro e v1 ⟨rfl, hb⟩; have HX := hid (bc_step (bc_alloc hAA _) hb); clear hb)
  go_returns
  exact ⟨rfl, bc_trans HA.out HX.out⟩

set_option maxHeartbeats 2000000 in
theorem Blocks (AL AA : Option Addr) (nL cL nA cA : Nat) (L : List LockV) (F : Nat → ActV) (w : World) (hL : Lks w AL nL L) (hc : nL ≤ cL) (hbig : nL ≤ 2199023255500) (hF : Acts w AA nA F) (hA : nA ≤ 1759218604400) : Calls Try.prog 6 #[.agg #[.slice AL nL cL, .slice AA nA cA]] w (Ret (.bool true) w) := by
  have HL := hid hL
  have HF := hid hF
  clear hL hF
  obtain ⟨wb, hA0, hAA, hsz, rr0, rr1⟩ : ∃ wb : World, BelowC w wb ∧ BelowC wb (w.alloc (.cells #[.slice AL nL cL, .slice AA nA cA] 25)) ∧ w.heap.size + 1 ≤ wb.heap.size ∧ (∀ w', BelowC wb w' → w'.cell? ⟨w.heap.size, 0, none⟩ = some (.slice AL nL cL)) ∧ (∀ w', BelowC wb w' → w'.cell? ⟨w.heap.size, 1, none⟩ = some (.slice AA nA cA)) := ⟨_, bc_alloc (bc_refl _) _, bc_refl _, by simp, bc_cell (by go_simp) (by first | (simp; done) | (simp; omega)), bc_cell (by go_simp) (by first | (simp; done) | (simp; omega))⟩
  have HA := hid hA0
  go_enter Try.func6, Try.ntmps6
  go_wp2_with (go_at_call 19; refine (Only AL AA _ nL cL nA cA 4 4 L F [0, 6, 1, 6] _ (HL.out.below (bc_trans HA.out (bc_alloc hAA _))) hc hbig (HF.out.below (bc_trans HA.out (bc_alloc hAA _))) hA ⟨rfl, by decide, fun _ => ⟨_, 0, rfl, by simp, fun i hi => by
    match i, hi with
    | 0, _ => simp
    | 1, _ => simp
    | 2, _ => simp
    | 3, _ => simp⟩⟩ (by decide)).mono ?_; rintro e v1 ⟨rfl, hb⟩; have HX := hid (bc_step (bc_alloc hAA _) hb); clear hb)
  go_returns
  exact ⟨rfl, bc_trans HA.out HX.out⟩

set_option maxHeartbeats 2000000 in
theorem CoversL (AL AA : Option Addr) (nL cL nA cA : Nat) (L : List LockV) (F : Nat → ActV) (w : World) (hL : Lks w AL nL L) (hc : nL ≤ cL) (hbig : nL ≤ 2199023255500) (hF : Acts w AA nA F) (hA : nA ≤ 1759218604400) : Calls Try.prog 7 #[.agg #[.slice AL nL cL, .slice AA nA cA]] w (Ret (.bool true) w) := by
  have HL := hid hL
  have HF := hid hF
  clear hL hF
  obtain ⟨wb, hA0, hAA, hsz, rr0, rr1⟩ : ∃ wb : World, BelowC w wb ∧ BelowC wb (w.alloc (.cells #[.slice AL nL cL, .slice AA nA cA] 25)) ∧ w.heap.size + 1 ≤ wb.heap.size ∧ (∀ w', BelowC wb w' → w'.cell? ⟨w.heap.size, 0, none⟩ = some (.slice AL nL cL)) ∧ (∀ w', BelowC wb w' → w'.cell? ⟨w.heap.size, 1, none⟩ = some (.slice AA nA cA)) := ⟨_, bc_alloc (bc_refl _) _, bc_refl _, by simp, bc_cell (by go_simp) (by first | (simp; done) | (simp; omega)), bc_cell (by go_simp) (by first | (simp; done) | (simp; omega))⟩
  have HA := hid hA0
  go_enter Try.func7, Try.ntmps7
  go_wp2_with (go_at_call 19; refine (Only AL AA _ nL cL nA cA 3 3 L F [0, 7, 8] _ (HL.out.below (bc_trans HA.out (bc_alloc hAA _))) hc hbig (HF.out.below (bc_trans HA.out (bc_alloc hAA _))) hA ⟨rfl, by decide, fun _ => ⟨_, 0, rfl, by simp, fun i hi => by
    match i, hi with
    | 0, _ => simp
    | 1, _ => simp
    | 2, _ => simp⟩⟩ (by decide)).mono ?_; rintro e v1 ⟨rfl, hb⟩; have HX := hid (bc_step (bc_alloc hAA _) hb); clear hb)
  go_returns
  exact ⟨rfl, bc_trans HA.out HX.out⟩
end Go.Proofs.Ytabbceinagakfaa.K
