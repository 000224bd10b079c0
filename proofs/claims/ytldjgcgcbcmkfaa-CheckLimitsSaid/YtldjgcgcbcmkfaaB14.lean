/- Contracts of packages key and plan: what each comes to. -/
import Derived.Test.YtldjgcgcbcmkfaaProg
import Derived.Below
import Derived.WalkKit
import Derived.KernelRfl
import Derived.RowKit
import Derived.RowKit3
import Derived.Tactics
import Derived.Deep.QuietTactic
import Derived.BigQuiet
import Derived.OwnWalk
import Derived.Outline
import Derived.Handy
import Derived.StillTailTactics
import Derived.Deep.RegionHeld3
import Derived.Deep.DeepCutAuto
import Derived.Deep.CutBlock
import Derived.Shelf.Abstract
import Derived.Lib.SmallJoins
import Derived.SliceStrings
import Derived.ArgAppend
import Derived.Lib.Strings
import Derived.Test.YtldjgcgcbcmkfaaB13
namespace Go.Proofs.Ytldjgcgcbcmkfaa.K
open Go.RowKit Go.Proofs.YtldjgcgcbcmkfaaS
set_option linter.unusedSimpArgs false
set_option linter.unusedVariables false
attribute [local go_sem] s_leq s_gtr s_geq s_maxr s_minr

attribute [local go_sem] bc_alloc2 bc_alloc3 s_alloc_drewN s_setCell_drewN bc_alloc bc_drewN bc_drew

def Pause (p : Prop) : Prop := p
theorem pause {p : Prop} (h : Pause p) : p := h
theorem bs38 (W : World) : Sem.run Try.prog (Instr.buildSlice 38 1 #[(0, .agg #[.int .i64 8, .int .i64 0, .string ⟨#[]⟩, .string ⟨#[]⟩, .string ⟨#[]⟩, .string ⟨#[]⟩, .bool false, .int .i64 0, .bool false])]) W = .ok (.slice (some ⟨W.heap.size, 0, none⟩) 1 1) (W.alloc (.cells #[.int .i64 8, .int .i64 0, .string ⟨#[]⟩, .string ⟨#[]⟩, .string ⟨#[]⟩, .string ⟨#[]⟩, .bool false, .int .i64 0, .bool false] 44)) := by
  go_simp
/-- A slice of one element, built. -/
theorem wpList_buildSlice1 {ops : Array Oper} {rest : List Oper} {o : Oper} {a : Act} {w w' : World} {Q : Exit → Act → World → Prop} (hgd : o.guard = none) (t : TypeId) (x : Operand) (v u : Value)
    (ho : o.op = .buildSlice t 1 #[(0, x)]) (hv : a.eval x = v) (hrun : Sem.run Try.prog (Instr.buildSlice t 1 #[(0, v)]) w = .ok u w')
    (h : wpList Try.prog ops Q rest (a.put o.dst u) w') : wpList Try.prog ops Q (o :: rest) a w := by
  refine wpList_plain hgd fun K hK => ?_
  unfold Oper.wp execOp
  simp only [ho, List.map_toArray, List.map_cons, List.map_nil, hv, Sem.run_bind, Sem.run_pure, Result.andThen_ok, hrun]
  exact hK _ _ h
theorem Programs7 (bM : Nat) (W : World) (h : Progs W (some ⟨bM, 0, none⟩) 6 (fun _ => pr0)) : Calls Try.prog 7 #[.agg #[.int .i64 3, .int .i64 200, .int .i64 64, .int .i64 4, .int .i64 2], .slice (some ⟨bM, 0, none⟩) 6 6] W (Ret (.int .i64 0) W) := by
  have e : progsI 6 (fun _ => pr0) 3 = 0 := by decide
  have := Programs 3 200 64 4 2 (some ⟨bM, 0, none⟩) 6 6 (fun _ => pr0) W (by decide) h
  rw [e] at this
  exact this
theorem Program8 (bL : Nat) (W : World) (h : Ops W (some ⟨bL, 0, none⟩) 12 (fun _ => opK 8)) : Calls Try.prog 8 #[.agg #[.bool false, .slice (some ⟨bL, 0, none⟩) 12 12], .int .i64 1] W (Ret (.int .i64 0) W) := by
  have c8 : ckB (opK 8) 1 = true := by
    have e0 : (⟨#[]⟩ : ByteArray).toList = [] := by rw [ByteArray.toList, ByteArray.toList.loop]; rfl
    simp [ckB, opK, opB, headB, tableB, keyB, valueB, scanB, withinB, numberB, tabledB, keyedB, valuedB, e0]
  have e : errI (withinB 1 3 && progB 12 (fun _ => opK 8) 1) = 0 := by
    have e1 : anyB (fun i => !ckB ((fun _ => opK 8) i) 1) 12 = false := any_miss fun j _ => by simp [c8]
    simp only [progB, e1]
    decide
  have := CProgram false (some ⟨bL, 0, none⟩) 12 12 (fun _ => opK 8) 1 W h
  rw [e] at this
  exact this
theorem progs_olds {w : World} {bM : Nat} (h : Progs w (some ⟨bM, 0, none⟩) 6 (fun _ => pr0)) : ∃ olds : List Value, olds.length = 6 * 2 ∧ ∀ j u, olds[j]? = some u → w.cell? ((⟨bM, 0, none⟩ : Addr).add j) = some u := by
  refine ⟨[.bool false, .slice none 0 0, .bool false, .slice none 0 0, .bool false, .slice none 0 0, .bool false, .slice none 0 0, .bool false, .slice none 0 0, .bool false, .slice none 0 0], rfl, fun j u hj => ?_⟩
  obtain ⟨b, o, e, hlt, hi⟩ := h.2 (by decide)
  cases e
  rw [Go.WideShapes.add_plain, Nat.zero_add]
  have hjl := (List.getElem?_eq_some_iff.1 hj).1
  have h0 := hi 0 (by decide); have h1 := hi 1 (by decide); have h2 := hi 2 (by decide); have h3 := hi 3 (by decide); have h4 := hi 4 (by decide); have h5 := hi 5 (by decide)
  match j, hjl with
  | 0, _ => cases hj; exact h0.c0
  | 1, _ => cases hj; exact h0.c1
  | 2, _ => cases hj; exact h1.c0
  | 3, _ => cases hj; exact h1.c1
  | 4, _ => cases hj; exact h2.c0
  | 5, _ => cases hj; exact h2.c1
  | 6, _ => cases hj; exact h3.c0
  | 7, _ => cases hj; exact h3.c1
  | 8, _ => cases hj; exact h4.c0
  | 9, _ => cases hj; exact h4.c1
  | 10, _ => cases hj; exact h5.c0
  | 11, _ => cases hj; exact h5.c1
theorem stepApp {ops : Array Oper} {o : Oper} {a : Act} {w b : World} {K : Act → World → Prop} {Q : Exit → Act → World → Prop} {E : Prop} (hw : Region.wanted o (yielded ops a.tmps) = true)
    (s x : Operand) (hop : o.op = Op.call { callee := Callee.builtin Builtin.append, args := #[s, x], argTypes := #[28, 28] }) (bM gn : Nat) (hs : a.eval s = .slice (some ⟨bM, 0, none⟩) 6 6) (hP : Progs w (some ⟨bM, 0, none⟩) 6 (fun _ => pr0))
    (hx : a.eval x = .slice (some ⟨gn, 0, none⟩) 1 1) (hn0 : w.cell? ⟨gn, 0, none⟩ = some (.bool false)) (hn1 : w.cell? ⟨gn, 1, none⟩ = some (.slice none 0 0)) (hB : BelowC b w)
    (hK : ∀ g cap w', BelowC b w' → K (a.put o.dst (.slice (some ⟨g, 0, none⟩) 7 cap)) w') : if Region.wanted o (yielded ops a.tmps) = true then Oper.wp Try.prog o a w K Q else E := by
  rw [if_pos hw]
  obtain ⟨i, hi, hb, hz, hsz⟩ := inf40
  obtain ⟨olds, hlo, hold⟩ := progs_olds hP
  have hml : maxLen = 9223372036854775807 := rfl
  obtain ⟨v', w', hrun, r1, r2⟩ := run_append_arg_grows (P := Try.prog) w 28 o.type 40 i (.agg #[.bool false, .slice none 0 0]) 2 32 Try.underlying28 hi hz hsz hb rfl (by decide) ⟨bM, 0, none⟩ 6 6 olds hlo hold ⟨gn, 0, none⟩ 1 1 [.bool false, .slice none 0 0] rfl
    (fun j u hj => by
      have hjl := (List.getElem?_eq_some_iff.1 hj).1
      match j, hjl with
      | 0, _ => cases hj; exact hn0
      | 1, _ => cases hj; exact hn1) (by decide) (by omega) (by decide)
  unfold Oper.wp
  simp [execOp, hop, resolve, invoke, builtin, hs, hx, hrun, Result.andThen]
  obtain ⟨g, cap, rfl⟩ := Go.Joins.ownsRow_form r1 (by decide)
  exact hK g cap w' (bc_grown hB r2 fun k hk => by cases hk)
theorem obj_own {w b : World} {o : Obj} {v : Value} {n : Nat} (h : ∃ xs, w.ownsRow b.heap.size 44 9 v n xs) : ∃ xs, (w.alloc o).ownsRow b.heap.size 44 9 v n xs := by
  obtain ⟨xs, h⟩ := h
  exact ⟨xs, h.alloc _⟩
theorem one_op (w : World) : Ops (w.alloc (.cells #[.int .i64 8, .int .i64 0, .string ⟨#[]⟩, .string ⟨#[]⟩, .string ⟨#[]⟩, .string ⟨#[]⟩, .bool false, .int .i64 0, .bool false] 44)) (some ⟨w.heap.size, 0, none⟩) 1 (fun _ => opK 8) :=
  ⟨by decide, fun _ => ⟨_, 0, rfl, by simp, fun i hi => by
    obtain rfl : i = 0 := by omega
    exact ⟨by simp [opK], by simp [opK], by simp [opK], by simp [opK], by simp [opK], by simp [opK], by simp [opK], by simp [opK], by simp [opK]⟩⟩⟩
set_option maxRecDepth 100000 in
set_option maxHeartbeats 8000000 in
theorem CheckLimits (AC : Option Addr) (nC cC : Nat) (AM : Option Addr) (nM cM : Nat) (AL : Option Addr) (nL cL : Nat) (AK : Option Addr) (nK cK : Nat) (AG : Option Addr) (nG cG : Nat) (hC : nC ≤ 9223372036854775807) (w : World) : Calls Try.prog 3 #[.agg #[.slice AC nC cC, .slice AM nM cM, .slice AL nL cL, .slice AK nK cK, .slice AG nG cG]] w (Ret (.bool true) w) := by
  have h0 := bc_refl w
  have f0 : cfgB 3 200 64 4 2 = true := by decide
  have f1 : cfgB 1 1 1 1 1 = true := by decide
  have f2 : cfgB 4 200 64 4 2 = false := by decide
  have f3 : cfgB 3 201 64 4 2 = false := by decide
  have f4 : cfgB 3 200 65 4 2 = false := by decide
  have f5 : cfgB 3 200 64 5 2 = false := by decide
  have f6 : cfgB 3 200 64 4 3 = false := by decide
  have f7 : cfgB 0 200 64 4 2 = false := by decide
  have f8 : cfgB 3 0 64 4 2 = false := by decide
  have f9 : cfgB 3 200 0 4 2 = false := by decide
  have f10 : cfgB 3 200 64 0 2 = false := by decide
  have f11 : cfgB 3 200 64 4 0 = false := by decide
  go_enter Try.func3, Try.ntmps3
  go_upto_region 2 with (fail)
  go_cut [20] (fun u wc => u = .bool false ∧ wc.cell? ⟨w.heap.size, 0, none⟩ = some (.slice AC nC cC) ∧ Box5 wc (w.heap.size + 1) 3 200 64 4 2 ∧ BelowC w wc)
  case first =>
    as_aux_lemma =>
    obtain ⟨wA, hA0, hA, hB, hE⟩ : ∃ wA : World, BelowC w wA ∧ wA.cell? ⟨w.heap.size, 0, none⟩ = some (.slice AC nC cC) ∧ Box5 wA (w.heap.size + 1) 3 200 64 4 2 ∧ BelowC wA ((w.alloc (.cells #[.slice AC nC cC, .slice AM nM cM, .slice AL nL cL, .slice AK nK cK, .slice AG nG cG] 32)).alloc (.cells #[.int .i64 3, .int .i64 200, .int .i64 64, .int .i64 4, .int .i64 2] 34)) := ⟨_, bc_alloc2 h0 _ _, by go_simp, ⟨by simp, by go_simp, by go_simp, by go_simp, by go_simp, by go_simp⟩, bc_refl _⟩
    have r0 := bc_cell hB.c0 hB.lt
    have r1 := bc_cell hB.c1 hB.lt
    have r2 := bc_cell hB.c2 hB.lt
    have r3 := bc_cell hB.c3 hB.lt
    have r4 := bc_cell hB.c4 hB.lt
    go_wp2_with (first | (go_at_call 6; (with_reducible refine (CConfig _ _ _ _ _ _).mono ?_); rintro e v1 ⟨rfl, hb⟩; have HX : BelowC wA v1 := bc_step (by repeat (with_reducible first | assumption | exact bc_refl _ | apply bc_alloc | apply bc_drewN | apply bc_drew)) hb; clear hb) | (go_at_call 5; refine (num' _ _).mono ?_; rintro ee _ ⟨rfl, rfl⟩))
    go_meet
    case rel => exact ⟨rfl, bc_cell hA (by have := hB.lt; omega) _ HX, hB.below HX, bc_trans hA0 HX⟩
  case rest =>
    obtain ⟨rfl, hP, hB, hWT⟩ := hcut
    rename World => wT
    have hT := bc_refl wT
    have r0 := bc_cell hB.c0 hB.lt
    have r1 := bc_cell hB.c1 hB.lt
    have r2 := bc_cell hB.c2 hB.lt
    have r3 := bc_cell hB.c3 hB.lt
    have r4 := bc_cell hB.c4 hB.lt
    have hlt := hB.lt
    go_wp2_with fail
    go_loopw [4, 5] (fun u _ wr => ∃ k : Nat, k ≤ 10 ∧ u = .int .i64 k ∧ BelowC wT wr) (fun u _ _ => 10 - (intOf u).toNat)
    case atStart => exact ⟨0, by omega, rfl, hT⟩
    case round =>
      clear hT
      obtain ⟨k, hk, rfl, HK⟩ := hrel
      rename World => wK
      by_cases hlt10 : k < 10
      · have hsz := bc_size HK
        rcases (show k = 0 ∨ k = 1 ∨ k = 2 ∨ k = 3 ∨ k = 4 ∨ k = 5 ∨ k = 6 ∨ k = 7 ∨ k = 8 ∨ k = 9 by omega) with e | e | e | e | e | e | e | e | e | e
        all_goals
          subst e
        iterate 10
          rotate_left
        all_goals
          as_aux_lemma =>
          go_wp2_with (first | (go_at_call 6; (with_reducible refine (CConfig _ _ _ _ _ _).mono ?_); rintro e v1 ⟨rfl, hb⟩; have HX : BelowC wT v1 := bc_step (by repeat (with_reducible first | assumption | exact bc_refl _ | apply bc_alloc | apply bc_drewN | apply bc_drew | refine bc_set ?_ (by omega))) hb; clear hb) | (go_at_call 5; refine (num' _ _).mono ?_; rintro ee _ ⟨rfl, rfl⟩))
          first | exact ⟨⟨1, by omega, rfl, HX⟩, by simp [intOf]⟩ | exact ⟨⟨2, by omega, rfl, HX⟩, by simp [intOf]⟩ | exact ⟨⟨3, by omega, rfl, HX⟩, by simp [intOf]⟩ | exact ⟨⟨4, by omega, rfl, HX⟩, by simp [intOf]⟩ | exact ⟨⟨5, by omega, rfl, HX⟩, by simp [intOf]⟩ | exact ⟨⟨6, by omega, rfl, HX⟩, by simp [intOf]⟩ | exact ⟨⟨7, by omega, rfl, HX⟩, by simp [intOf]⟩ | exact ⟨⟨8, by omega, rfl, HX⟩, by simp [intOf]⟩ | exact ⟨⟨9, by omega, rfl, HX⟩, by simp [intOf]⟩ | exact ⟨⟨10, by omega, rfl, HX⟩, by simp [intOf]⟩
      · clear r0 r1 r2 r3 r4 f1 f2 f3 f4 f5 f6 f7 f8 f9 f10 f11
        have hm6 := mk6
        have hm12 := mk12
        go_upto_region 31 with (fail)
        have hMP := hid (many_progs wK)
        have hMB := hid (bc_trans HK (bc_alloc (bc_refl wK) (.cells #[.bool false, .slice none 0 0, .bool false, .slice none 0 0, .bool false, .slice none 0 0, .bool false, .slice none 0 0, .bool false, .slice none 0 0, .bool false, .slice none 0 0] 40)))
        generalize wK.alloc (.cells #[.bool false, .slice none 0 0, .bool false, .slice none 0 0, .bool false, .slice none 0 0, .bool false, .slice none 0 0, .bool false, .slice none 0 0, .bool false, .slice none 0 0] 40) = wM at hMP hMB ⊢
        clear hm6 HK
        go_wp2_with fail
        go_loopw [8] (fun u wr => ∃ i : Nat, i ≤ 12 ∧ u = .int .i64 i ∧ BelowC wM wr ∧ Hid (∀ j, j < 12 → OpAt wr wM.heap.size (j * 9) (opK (if j < i then 8 else 0))) ∧ Hid (∀ o, wr.frozen? ⟨wM.heap.size, o, none⟩ = false) ∧ wr.cell? ⟨wM.heap.size + 1, 0, none⟩ = some (.bool false) ∧ wr.cell? ⟨wM.heap.size + 1, 1, none⟩ = some (.slice (some ⟨wM.heap.size, 0, none⟩) 12 12) ∧ wM.heap.size + 1 < wr.heap.size) (fun u _ => 12 - (intOf u).toNat)
        case atStart =>
          refine ⟨0, by omega, rfl, bc_alloc2 (bc_refl _) _ _, hid fun j hj => ?_, hid fun o => by simp, by go_simp, by go_simp, by simp⟩
          exact (long_ops wM j hj).below (bc_alloc (bc_refl _) _) (by simp)
        case round =>
          obtain ⟨i, hi, rfl, HJ, HO, HF, hb0, hb1, hS⟩ := hrel
          rename World => wJ
          by_cases hlt12 : i < 12
          · have hci := (HO.out i hlt12).c0
            have hfi := HF.out (i * 9)
            go_wp2_with fail
            go_roundw
            case rel =>
              refine ⟨i + 1, by omega, by go_num, bc_set HJ (Nat.le_refl _), hid fun j hj => ?_, hid fun o => by rw [World.frozen?_setCell]; exact HF.out o, ?_, ?_, by simpa using hS⟩
              · have hx := HO.out j hj
                by_cases e : j = i
                · subst e
                  rw [if_neg (Nat.lt_irrefl _)] at hx
                  rw [if_pos (Nat.lt_succ_self _)]
                  exact opAt_eq hx
                · have := opAt_ne (v := .int .i64 8) hx (fun e' => e e'.symm)
                  by_cases g : j < i
                  · rw [if_pos g] at this; rw [if_pos (by omega)]; exact this
                  · rw [if_neg g] at this; rw [if_neg (by omega)]; exact this
              · go_simp
              · go_simp
            case measure => simp [intOf]; omega
          · have hOp : Ops wJ (some ⟨wM.heap.size, 0, none⟩) 12 (fun _ => opK 8) := ⟨by decide, fun _ => ⟨_, 0, rfl, by omega, fun j hj => by
              have hx := HO.out j hj
              rw [if_pos (by omega)] at hx
              rw [Nat.zero_add]
              exact hx⟩⟩
            have HOp := hid hOp
            have hpp := hid (bc_cell hP (by omega) _ (bc_trans hMB.out HJ))
            have hbb := hid (hB.below (bc_trans hMB.out HJ))
            have hpg := hid (hMP.out.below HJ)
            have hwj := hid (bc_trans (bc_trans hWT hMB.out) HJ)
            clear hOp HO HF hm12
            go_upto_region 36 with (fail)
            go_cut [9] (fun u wc => ∃ (g : Nat) (A : Option Addr) (c : Nat), u = .pointer (some ⟨g, 0, none⟩) ∧ g < wc.heap.size ∧ wc.cell? ⟨g, 0, none⟩ = some (.bool false) ∧ wc.cell? ⟨g, 1, none⟩ = some (.slice A 13 c) ∧ BelowC wJ wc)
            case first =>
              as_aux_lemma =>
              have HJ0 := bc_refl wJ
              go_wp2_with (at_builtin; refine pause ?_)
              unfold Pause
              refine app38 (b := wJ) rfl (.tmp 86) (.tmp 88) rfl (.slice (some ⟨wJ.heap.size, 0, none⟩) 0 0) 0 rfl ⟨[], World.ownsRow_made wJ #[] 0 (Nat.le_refl _) (by decide) rfl⟩ ⟨wM.heap.size, 0, none⟩ 12 12 (fun _ => opK 8) rfl (HOp.out.below (bc_alloc HJ0 _)) (by decide) (by decide) (bc_alloc HJ0 _) ?_
              intro g1 cap1 w1 hown1 HB1
              go_step
              go_step
              first | go_values | go_skip | go_guarded | go_step | go_upon | go_back
              refine wpList_buildSlice1 rfl 38 (.tmp 90) _ _ rfl rfl (bs38 _) ?_
              go_wp2_with (at_builtin; refine pause ?_)
              unfold Pause
              refine app38 (b := wJ) rfl (.tmp 89) (.tmp 91) rfl (.slice (some ⟨g1, 0, none⟩) 12 cap1) 12 rfl (obj_own hown1) ⟨w1.heap.size, 0, none⟩ 1 1 (fun _ => opK 8) rfl (one_op w1) (by decide) (by decide) (bc_alloc HB1 _) ?_
              intro g2 cap2 w2 hown2 HB2
              go_wp2_with fail
              go_meet
              case rel => exact ⟨w2.heap.size, some ⟨g2, 0, none⟩, cap2, rfl, by simp, by go_simp, by go_simp, bc_alloc HB2 _⟩
            case rest =>
              obtain ⟨g, Am, cm, rfl, hg, hg0, hg1, hZ⟩ := hcut
              rename World => wZ
              have hz := hbb.out.below hZ
              have x0 := bc_cell hz.c0 hz.lt
              have x1 := bc_cell hz.c1 hz.lt
              have x2 := bc_cell hz.c2 hz.lt
              have x3 := bc_cell hz.c3 hz.lt
              have x4 := bc_cell hz.c4 hz.lt
              have x5 := bc_cell hg0 hg
              have x6 := bc_cell hg1 hg
              have x7 := bc_cell (bc_cell hb0 hS _ hZ) (bc_lt hZ hS)
              have x8 := bc_cell (bc_cell hb1 hS _ hZ) (bc_lt hZ hS)
              have x9 := bc_cell (bc_cell hpp.out (by have := hbb.out.lt; omega) _ hZ) (bc_lt hZ (by have := hbb.out.lt; omega))
              have HPg := hid (hpg.out.below hZ)
              have HOg := hid (HOp.out.below hZ)
              have hZZ := bc_refl wZ
              have HW := hid (bc_trans hwj.out hZ)
              have K7 := hid (fun W (hW : BelowC wZ W) => Programs7 wK.heap.size W (HPg.out.below hW))
              have K8 := hid (fun W (hW : BelowC wZ W) => Program8 wM.heap.size W (HOg.out.below hW))
              clear hz hg0 hg1 hb0 hb1 hpp hbb hpg HOp hwj hZ hB hP hWT h0 HJ hMP hMB
              as_aux_lemma =>
              go_upto_region 37 with (fail)
              go_region_held3 (fun w' => BelowC wZ w') (repeat (with_reducible first | assumption | apply bc_alloc | apply bc_drewN | apply bc_drew)) (first
                | (go_at_call 5; refine (num' _ _).mono ?_; rintro ee _ ⟨rfl, rfl⟩)
                | (refine stepApp (b := wZ) rfl (.tmp 101) (.tmp 103) rfl wK.heap.size _ rfl (HPg.out.below (by repeat (with_reducible first | assumption | apply bc_alloc | apply bc_drewN | apply bc_drew))) rfl (by go_simp) (by go_simp) (by repeat (with_reducible first | assumption | apply bc_alloc | apply bc_drewN | apply bc_drew)) ?_; intro gq capq wq hq)
                | (go_at_call 9; refine (wakes _).mono ?_; rintro ee v1 ⟨rfl, hb⟩; have HX : BelowC wZ v1 := bc_step (by repeat (with_reducible first | assumption | apply bc_alloc | apply bc_drewN | apply bc_drew)) hb; clear hb)
                | (go_at_call 7; (with_reducible refine (K7.out _ (by repeat (with_reducible first | assumption | apply bc_alloc | apply bc_drewN | apply bc_drew))).mono ?_); rintro ee v1 ⟨rfl, hb⟩; have HX : BelowC wZ v1 := bc_step (by repeat (with_reducible first | assumption | apply bc_alloc | apply bc_drewN | apply bc_drew)) hb; clear hb)
                | (go_at_call 7; (with_reducible refine (ProgramsMany 3 200 64 4 2 _ 7 _ _ f0 (by decide) (by decide)).mono ?_); rintro ee v1 ⟨rfl, hb⟩; have HX : BelowC wZ v1 := bc_step (by repeat (with_reducible first | assumption | apply bc_alloc | apply bc_drewN | apply bc_drew)) hb; clear hb)
                | (go_at_call 8; (with_reducible refine (K8.out _ (by repeat (with_reducible first | assumption | apply bc_alloc | apply bc_drewN | apply bc_drew))).mono ?_); rintro ee v1 ⟨rfl, hb⟩; have HX : BelowC wZ v1 := bc_step (by repeat (with_reducible first | assumption | apply bc_alloc | apply bc_drewN | apply bc_drew)) hb; clear hb)
                | (go_at_call 8; (with_reducible refine (CProgramMany false _ 13 _ _ (by decide) (by decide)).mono ?_); rintro ee v1 ⟨rfl, hb⟩; have HX : BelowC wZ v1 := bc_step (by repeat (with_reducible first | assumption | apply bc_alloc | apply bc_drewN | apply bc_drew)) hb; clear hb))
              all_goals
                go_wp2_with fail
                go_returns
                exact ⟨rfl, bc_trans HW.out (by with_reducible assumption)⟩
end Go.Proofs.Ytldjgcgcbcmkfaa.K
