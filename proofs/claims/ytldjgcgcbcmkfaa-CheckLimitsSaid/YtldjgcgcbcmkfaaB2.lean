/- Contracts of packages key and plan: what each comes to. -/
import Derived.Test.YtldjgcgcbcmkfaaProg
import Derived.Below
import Derived.WalkKit
import Derived.KernelRfl
import Derived.RowKit
import Derived.RowKit3
import Derived.Tactics
import Derived.Deep.QuietTactic
import Derived.BigQuiet
import Derived.OwnWalk
import Derived.Outline
import Derived.Handy
import Derived.StillTailTactics
import Derived.Deep.RegionHeld3
import Derived.Deep.DeepCutAuto
import Derived.Deep.CutBlock
import Derived.Lib.Strings
import Derived.Test.YtldjgcgcbcmkfaaQ
namespace Go.Proofs.Ytldjgcgcbcmkfaa.K
open Go.RowKit Go.Proofs.YtldjgcgcbcmkfaaS
set_option linter.unusedSimpArgs false
set_option linter.unusedVariables false
attribute [local go_sem] s_leq s_gtr s_geq s_maxr s_minr

attribute [local go_sem] bc_alloc2 bc_alloc3 s_alloc_drewN s_setCell_drewN bc_alloc bc_drewN bc_drew
/-- An op in a variable of its own. -/
structure Box9 (w : World) (g : Nat) (kind table : Int) (key value lo hi : ByteArray) (top : Bool) (n : Int) (back : Bool) : Prop where
  lt : g < w.heap.size
  c0 : w.cell? ⟨g, 0, none⟩ = some (Value.int .i64 kind)
  c1 : w.cell? ⟨g, 1, none⟩ = some (Value.int .i64 table)
  c2 : w.cell? ⟨g, 2, none⟩ = some (Value.string key)
  c3 : w.cell? ⟨g, 3, none⟩ = some (Value.string value)
  c4 : w.cell? ⟨g, 4, none⟩ = some (Value.string lo)
  c5 : w.cell? ⟨g, 5, none⟩ = some (Value.string hi)
  c6 : w.cell? ⟨g, 6, none⟩ = some (Value.bool top)
  c7 : w.cell? ⟨g, 7, none⟩ = some (Value.int .i64 n)
  c8 : w.cell? ⟨g, 8, none⟩ = some (Value.bool back)
theorem Box9.below {w w' : World} {g : Nat} {kind table : Int} {key value lo hi : ByteArray} {top : Bool} {n : Int} {back : Bool} (h : Box9 w g kind table key value lo hi top n back) (hb : BelowC w w') : Box9 w' g kind table key value lo hi top n back :=
  ⟨bc_lt hb h.lt, bc_cell h.c0 h.lt w' hb, bc_cell h.c1 h.lt w' hb, bc_cell h.c2 h.lt w' hb, bc_cell h.c3 h.lt w' hb, bc_cell h.c4 h.lt w' hb, bc_cell h.c5 h.lt w' hb, bc_cell h.c6 h.lt w' hb, bc_cell h.c7 h.lt w' hb, bc_cell h.c8 h.lt w' hb⟩

def tableB (kind table tables : Int) : Bool := bif tabledB kind then decide (0 ≤ table) && decide (table < tables) else table == 0
def keyB (kind : Int) (key : ByteArray) : Bool := bif keyedB kind then isB key else key.toList.isEmpty
def valueB (kind : Int) (value : ByteArray) : Bool := bif valuedB kind then fitsB value else value.toList.isEmpty
def scanB (kind : Int) (lo hi : ByteArray) (top back : Bool) : Bool := bif kind == 6 then mayB lo hi top else !back && (lo.toList.isEmpty && (hi.toList.isEmpty && !top))
def headB (kind n : Int) : Bool := decide (1 ≤ kind) && (decide (kind ≤ 12) && numberB kind n)
def opB (kind table : Int) (key value lo hi : ByteArray) (top : Bool) (n : Int) (back : Bool) (tables : Int) : Bool :=
  headB kind n && (tableB kind table tables && (keyB kind key && (valueB kind value && scanB kind lo hi top back)))
set_option maxRecDepth 100000 in
set_option maxHeartbeats 4000000 in
theorem IsOp (kind table : Int) (key value lo hi : ByteArray) (top : Bool) (n : Int) (back : Bool) (tables : Int) (w : World) :
    Calls Try.prog 27 #[opv kind table key value lo hi top n back, .int .i64 tables] w (Ret (.bool (opB kind table key value lo hi top n back tables)) w) := by
  go_enter Try.func27, Try.ntmps27
  go_upto_region 1 with (fail)
  go_cut [5] (fun u wc => u = .bool (kind == 6) ∧ Box9 wc w.heap.size kind table key value lo hi top n back ∧ BelowC w wc)
  case first =>
    as_aux_lemma =>
    go_wp2_with fail
    go_meet
    case rel =>
      refine ⟨rfl, ?_, ?_⟩
      · exact ⟨by first | (simp; done) | (simp; omega), by go_simp, by go_simp, by go_simp, by go_simp, by go_simp, by go_simp, by go_simp, by go_simp, by go_simp⟩
      · repeat (with_reducible first | exact bc_refl _ | assumption | exact bc_refl _ | apply bc_alloc | apply bc_drewN | apply bc_drew)
  case rest =>
    obtain ⟨rfl, hB, HB⟩ := hcut
    rename World => wC
    have HC : BelowC wC wC := bc_refl _
    have r0 := bc_cell hB.c0 hB.lt
    have r1 := bc_cell hB.c1 hB.lt
    have r2 := bc_cell hB.c2 hB.lt
    have r3 := bc_cell hB.c3 hB.lt
    have r4 := bc_cell hB.c4 hB.lt
    have r5 := bc_cell hB.c5 hB.lt
    have r6 := bc_cell hB.c6 hB.lt
    have r7 := bc_cell hB.c7 hB.lt
    have r8 := bc_cell hB.c8 hB.lt
    go_upto_region 2 with (fail)
    go_cut [9] (fun u wc => u = .bool (!headB kind n) ∧ Box9 wc w.heap.size kind table key value lo hi top n back ∧ BelowC w wc)
    case first =>
      as_aux_lemma =>
      go_wp2_with (first | (go_at_call 29; (with_reducible refine (number _ _ _ _ _ _ _ _ _  _).mono ?_); rintro e v1 ⟨rfl, hb⟩; have HX : BelowC wC v1 := bc_step (by repeat (with_reducible first | assumption | exact bc_refl _ | apply bc_alloc | apply bc_drewN | apply bc_drew)) hb; clear hb))
      all_goals
        go_meet
        case rel =>
          refine ⟨?_, ?_, ?_⟩
          · simp [headB, *]
            all_goals first | rfl | omega
          · exact hB.below (by repeat (with_reducible first | assumption | exact bc_refl _ | apply bc_alloc | apply bc_drewN | apply bc_drew))
          · refine bc_trans HB ?_
            repeat (with_reducible first | assumption | exact bc_refl _ | apply bc_alloc | apply bc_drewN | apply bc_drew)
    case rest =>
      clear r0 r1 r2 r3 r4 r5 r6 r7 r8 HC
      have HB0 := HB; clear HB; have hB0 := hB; clear hB
      obtain ⟨rfl, hB, HB⟩ := hcut
      clear HB0 hB0
      rename World => wC
      have HC : BelowC wC wC := bc_refl _
      have r0 := bc_cell hB.c0 hB.lt
      have r1 := bc_cell hB.c1 hB.lt
      have r2 := bc_cell hB.c2 hB.lt
      have r3 := bc_cell hB.c3 hB.lt
      have r4 := bc_cell hB.c4 hB.lt
      have r5 := bc_cell hB.c5 hB.lt
      have r6 := bc_cell hB.c6 hB.lt
      have r7 := bc_cell hB.c7 hB.lt
      have r8 := bc_cell hB.c8 hB.lt
      cases hq2 : headB kind n
      · as_aux_lemma =>
        go_wp2_with fail
        go_returns
        exact ⟨by simp [opB, hq2, ], HB⟩
      · go_upto_region 4 with (fail)
        go_cut [23] (fun u wc => u = .bool (!tableB kind table tables) ∧ Box9 wc w.heap.size kind table key value lo hi top n back ∧ BelowC w wc)
        case first =>
          as_aux_lemma =>
          cases hs0 : tabledB kind
          all_goals
            go_wp2_with (first | (go_at_call 30; (with_reducible refine (tabled _ _ _ _ _ _ _ _ _  _).mono ?_); rintro e v1 ⟨rfl, hb⟩; have HX : BelowC wC v1 := bc_step (by repeat (with_reducible first | assumption | exact bc_refl _ | apply bc_alloc | apply bc_drewN | apply bc_drew)) hb; clear hb))
            all_goals
              go_meet
              case rel =>
                refine ⟨?_, ?_, ?_⟩
                · simp [tableB, *]
                  all_goals first | rfl | omega
                · exact hB.below (by repeat (with_reducible first | assumption | exact bc_refl _ | apply bc_alloc | apply bc_drewN | apply bc_drew))
                · refine bc_trans HB ?_
                  repeat (with_reducible first | assumption | exact bc_refl _ | apply bc_alloc | apply bc_drewN | apply bc_drew)
        case rest =>
          clear r0 r1 r2 r3 r4 r5 r6 r7 r8 HC
          have HB0 := HB; clear HB; have hB0 := hB; clear hB
          obtain ⟨rfl, hB, HB⟩ := hcut
          clear HB0 hB0
          rename World => wC
          have HC : BelowC wC wC := bc_refl _
          have r0 := bc_cell hB.c0 hB.lt
          have r1 := bc_cell hB.c1 hB.lt
          have r2 := bc_cell hB.c2 hB.lt
          have r3 := bc_cell hB.c3 hB.lt
          have r4 := bc_cell hB.c4 hB.lt
          have r5 := bc_cell hB.c5 hB.lt
          have r6 := bc_cell hB.c6 hB.lt
          have r7 := bc_cell hB.c7 hB.lt
          have r8 := bc_cell hB.c8 hB.lt
          cases hq4 : tableB kind table tables
          · as_aux_lemma =>
            go_wp2_with fail
            go_returns
            exact ⟨by simp [opB, hq4, hq2], HB⟩
          · go_upto_region 6 with (fail)
            go_cut [47] (fun u wc => u = .bool (!keyB kind key) ∧ Box9 wc w.heap.size kind table key value lo hi top n back ∧ BelowC w wc)
            case first =>
              as_aux_lemma =>
              cases hs0 : keyedB kind
              all_goals
                go_wp2_with (first | (go_at_call 31; (with_reducible refine (keyed _ _ _ _ _ _ _ _ _  _).mono ?_); rintro e v1 ⟨rfl, hb⟩; have HX : BelowC wC v1 := bc_step (by repeat (with_reducible first | assumption | exact bc_refl _ | apply bc_alloc | apply bc_drewN | apply bc_drew)) hb; clear hb) | (go_at_call 32; (with_reducible refine (Is _  _).mono ?_); rintro e v1 ⟨rfl, hb⟩; have HX : BelowC wC v1 := bc_step (by repeat (with_reducible first | assumption | exact bc_refl _ | apply bc_alloc | apply bc_drewN | apply bc_drew)) hb; clear hb))
                all_goals
                  go_meet
                  case rel =>
                    refine ⟨?_, ?_, ?_⟩
                    · simp [keyB, *]
                      all_goals first | rfl | omega
                    · exact hB.below (by repeat (with_reducible first | assumption | exact bc_refl _ | apply bc_alloc | apply bc_drewN | apply bc_drew))
                    · refine bc_trans HB ?_
                      repeat (with_reducible first | assumption | exact bc_refl _ | apply bc_alloc | apply bc_drewN | apply bc_drew)
            case rest =>
              clear r0 r1 r2 r3 r4 r5 r6 r7 r8 HC
              have HB0 := HB; clear HB; have hB0 := hB; clear hB
              obtain ⟨rfl, hB, HB⟩ := hcut
              clear HB0 hB0
              rename World => wC
              have HC : BelowC wC wC := bc_refl _
              have r0 := bc_cell hB.c0 hB.lt
              have r1 := bc_cell hB.c1 hB.lt
              have r2 := bc_cell hB.c2 hB.lt
              have r3 := bc_cell hB.c3 hB.lt
              have r4 := bc_cell hB.c4 hB.lt
              have r5 := bc_cell hB.c5 hB.lt
              have r6 := bc_cell hB.c6 hB.lt
              have r7 := bc_cell hB.c7 hB.lt
              have r8 := bc_cell hB.c8 hB.lt
              cases hq6 : keyB kind key
              · as_aux_lemma =>
                go_wp2_with fail
                go_returns
                exact ⟨by simp [opB, hq6, hq2, hq4], HB⟩
              · go_upto_region 8 with (fail)
                go_cut [66] (fun u wc => u = .bool (!valueB kind value) ∧ Box9 wc w.heap.size kind table key value lo hi top n back ∧ BelowC w wc)
                case first =>
                  as_aux_lemma =>
                  cases hs0 : valuedB kind
                  all_goals
                    go_wp2_with (first | (go_at_call 33; (with_reducible refine (valued _ _ _ _ _ _ _ _ _  _).mono ?_); rintro e v1 ⟨rfl, hb⟩; have HX : BelowC wC v1 := bc_step (by repeat (with_reducible first | assumption | exact bc_refl _ | apply bc_alloc | apply bc_drewN | apply bc_drew)) hb; clear hb) | (go_at_call 34; (with_reducible refine (Fits _  _).mono ?_); rintro e v1 ⟨rfl, hb⟩; have HX : BelowC wC v1 := bc_step (by repeat (with_reducible first | assumption | exact bc_refl _ | apply bc_alloc | apply bc_drewN | apply bc_drew)) hb; clear hb))
                    all_goals
                      go_meet
                      case rel =>
                        refine ⟨?_, ?_, ?_⟩
                        · simp [valueB, *]
                          all_goals first | rfl | omega
                        · exact hB.below (by repeat (with_reducible first | assumption | exact bc_refl _ | apply bc_alloc | apply bc_drewN | apply bc_drew))
                        · refine bc_trans HB ?_
                          repeat (with_reducible first | assumption | exact bc_refl _ | apply bc_alloc | apply bc_drewN | apply bc_drew)
                case rest =>
                  clear r0 r1 r2 r3 r4 r5 r6 r7 r8 HC
                  have HB0 := HB; clear HB; have hB0 := hB; clear hB
                  obtain ⟨rfl, hB, HB⟩ := hcut
                  clear HB0 hB0
                  rename World => wC
                  have HC : BelowC wC wC := bc_refl _
                  have r0 := bc_cell hB.c0 hB.lt
                  have r1 := bc_cell hB.c1 hB.lt
                  have r2 := bc_cell hB.c2 hB.lt
                  have r3 := bc_cell hB.c3 hB.lt
                  have r4 := bc_cell hB.c4 hB.lt
                  have r5 := bc_cell hB.c5 hB.lt
                  have r6 := bc_cell hB.c6 hB.lt
                  have r7 := bc_cell hB.c7 hB.lt
                  have r8 := bc_cell hB.c8 hB.lt
                  cases hq8 : valueB kind value
                  · as_aux_lemma =>
                    go_wp2_with fail
                    go_returns
                    exact ⟨by simp [opB, hq8, hq2, hq4, hq6], HB⟩
                  · by_cases h6 : kind = 6
                    · as_aux_lemma =>
                      subst h6
                      go_wp2_with (first | (go_at_call 35; (with_reducible refine (May _ _ _  _).mono ?_); rintro e v1 ⟨rfl, hb⟩; have HX : BelowC wC v1 := bc_step (by repeat (with_reducible first | assumption | exact bc_refl _ | apply bc_alloc | apply bc_drewN | apply bc_drew)) hb; clear hb))
                      all_goals
                        go_returns
                        exact ⟨by simp [opB, scanB, *], by refine bc_trans HB ?_; repeat (with_reducible first | assumption | exact bc_refl _ | apply bc_alloc | apply bc_drewN | apply bc_drew)⟩
                    · as_aux_lemma =>
                      have h6b : (kind == 6) = false := by simp [h6]
                      go_wp2_with (first | (go_at_call 35; (with_reducible refine (May _ _ _  _).mono ?_); rintro e v1 ⟨rfl, hb⟩; have HX : BelowC wC v1 := bc_step (by repeat (with_reducible first | assumption | exact bc_refl _ | apply bc_alloc | apply bc_drewN | apply bc_drew)) hb; clear hb))
                      all_goals
                        go_returns
                        exact ⟨by simp [opB, scanB, *], by refine bc_trans HB ?_; repeat (with_reducible first | assumption | exact bc_refl _ | apply bc_alloc | apply bc_drewN | apply bc_drew)⟩
end Go.Proofs.Ytldjgcgcbcmkfaa.K
