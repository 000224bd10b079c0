/- ref All, Ages. -/
import Derived.Test.YtmokjaelgfikeaaProg
import Derived.Below
import Derived.WalkKit
import Derived.KernelRfl
import Derived.RowKit
import Derived.RowKit3
import Derived.Tactics
import Derived.Deep.QuietTactic
import Derived.BigQuiet
import Derived.OwnWalk
import Derived.Outline
import Derived.Handy
import Derived.StillTailTactics
import Derived.Deep.RegionHeld3
import Derived.Deep.DeepCutAuto
import Derived.Deep.CutBlock
import Derived.Shelf.Abstract
import Derived.Shelf.SlSortCmp.QuietGrown
import Derived.Lib.SliceRun
import Derived.Sort.OwnSortedInts
import Derived.Lib.SlicesCompact
import Derived.Lib.SmallJoins
import Derived.SliceStrings
import Derived.ArgAppend
import Derived.Deep.AppendSrc
import Derived.Deep.Upon
import Derived.Deep.Slices
import Derived.ChangeSame
import Derived.Maps.OwnSet
import Derived.Maps.Range
import Derived.Maps.OwnOps
import Derived.Lib.SlKeysI
import Derived.Maps.Views
import Derived.Maps.AppendAt
import Derived.Test.YtmokjaelgfikeaaC15
namespace Go.Proofs.Ytmokjaelgfikeaa.K
open Go.RowKit
set_option linter.unusedSimpArgs false
set_option linter.unusedVariables false
attribute [local go_sem] bc_alloc2 bc_alloc3 s_alloc_drewN s_setCell_drewN bc_alloc bc_drewN bc_drew

/-- append of numbers to a row of the call's own, in a region that draws. -/
theorem stepAppI {ops : Array Oper} {o : Oper} {a : Act} {w b : World} {K : Act → World → Prop} {Q : Exit → Act → World → Prop} {E : Prop} (hw : Region.wanted o (yielded ops a.tmps) = true)
    (s x : Operand) (ho : o.op = .call { callee := .builtin .append, args := #[s, x], argTypes := #[23, 23] }) (v : Value) (xs : List Int) (hs : a.eval s = v) (hown : OwnI w b v xs)
    (A : Option Addr) (m c : Nat) (ys : List Int) (hx : a.eval x = .slice A m c) (hO : Ns w A m ys) (hn : xs.length + m ≤ 1000000) (hB : BelowC b w)
    (hK : ∀ v' w', OwnI w' b v' (xs ++ ys) → BelowC b w' → K (a.put o.dst v') w') : if Region.wanted o (yielded ops a.tmps) = true then Oper.wp Try.prog o a w K Q else E := by
  rw [if_pos hw]
  obtain ⟨i, hi, hb, hz, hsz⟩ := inf3
  have hml : maxLen = 9223372036854775807 := rfl
  have key : ∃ v' w', (Builtin.append_ #[23, 23] o.type #[v, .slice A m c]).run Try.prog w = .ok v' w' ∧ OwnI w' b v' (xs ++ ys) ∧ BelowC b w' := by
    by_cases hm : m = 0
    · subst hm
      have e : ys = [] := List.eq_nil_of_length_eq_zero hO.1.symm
      subst e
      have hsrc : Src Try.prog i.size 23 (.slice A 0 c) 0 [] w := by
        cases A with
        | none => exact Src.ofNil w Try.underlying23 c
        | some ad => exact Src.ofSlice w Try.underlying23 ad 0 c [] (by simp) (by simp) (by simp)
      obtain ⟨A', n', c', rfl, _, hle, _, _⟩ := ownI_form hown
      exact ⟨_, w, run_append_nothing w 23 23 o.type 3 i Try.underlying23 hi A' n' c' hle _ hsrc, by rw [List.append_nil]; exact hown, hB⟩
    · obtain ⟨ad, rfl⟩ : ∃ ad, A = some ad := by
        obtain ⟨b, o, e, _⟩ := hO.2.2 (by omega)
        exact ⟨_, e⟩
      obtain ⟨v', w', hrun, h1, h2, h3⟩ := run_append_own (P := Try.prog) w b.heap.size 23 o.type 3 i _ 1 8 Try.underlying23 hi hz hsz hb rfl (by decide) v xs.length (xs.map (Value.int .i64)) hown ad m c (ys.map (Value.int .i64)) (by rw [List.length_map, hO.1]; omega) (ns_news hO) (ints_one ys) (by omega) (by omega) (bc_size hB)
      refine ⟨v', w', hrun, ?_, bc_grown hB h2 fun k hk => (hown.lt k hk).1⟩
      unfold OwnI
      rw [List.map_append, List.length_append, ← hO.1]
      exact h1
  obtain ⟨v', w', hrun, h1, h2⟩ := key
  unfold Oper.wp
  simp [execOp, ho, resolve, invoke, builtin, hs, hx, hrun, Result.andThen]
  exact hK v' w' h1 h2
def allL (L : List WaitV) : List Int := L.flatMap fun x => x.o :: x.f
theorem all_take {L : List WaitV} {k : Nat} (h : k < L.length) : allL (L.take (k + 1)) = allL (L.take k) ++ [L[k].o] ++ L[k].f := by
  unfold allL
  rw [List.take_add_one, List.getElem?_eq_getElem h, Option.toList_some, List.flatMap_append]
  simp
theorem all_le {L : List WaitV} {k : Nat} : (allL (L.take k)).length ≤ (allL L).length := by
  have e : allL L = allL (L.take k) ++ allL (L.drop k) := by
    unfold allL
    rw [← List.flatMap_append, List.take_append_drop]
  rw [e, List.length_append]
  omega
set_option maxRecDepth 100000 in
set_option maxHeartbeats 4000000 in
theorem AllOf (A : Option Addr) (n c : Nat) (L : List WaitV) (w : World) (h : Wts w A n L) (hbig : (allL L).length ≤ 500000) : Calls Try.prog 10 #[.slice A n c] w (RetI (allL L) w) := by
  have hn := h.2.1
  have H := hid h
  have HL := hid h.1
  clear h
  have h0 := bc_refl w
  go_enter Try.func10, Try.ntmps10
  go_wp2_with fail
  go_loopg [3, 4] n (fun g u y wr => ∃ (k : Nat) (Au : Option Addr) (nu cu : Nat), k ≤ n ∧ g = n - k ∧ y = .int .i64 k ∧ u = .slice Au nu cu ∧ Hid (OwnI wr w (.slice Au nu cu) (allL (L.take k))) ∧ BelowC w wr)
  case atStart => exact ⟨0, none, 0, 0, by omega, by omega, rfl, rfl, hid (by simpa [allL] using ownI_nil _ _), h0⟩
  case round =>
    obtain ⟨k, Au, nu, cu, hk, rfl, rfl, rfl, HO, HK⟩ := hrel
    rename World => wK
    by_cases hlt : k < n
    · obtain ⟨b, o, rfl, hb0, hcs⟩ := H.out.2.2 (by omega)
      have hkl : k < L.length := by have := HL.out; omega
      have hx := hcs k hkl
      have HT := hid (all_take hkl)
      have HLE := hid (all_le (L := L) (k := k + 1))
      generalize L[k] = x at hx HT
      have q0 := bc_cell hx.c0 hb0
      have q1 := bc_cell hx.c1 hb0
      have HN := hid hx.ns
      have i1 : (k : Int) < (n : Int) := by omega
      have hII := bc_refl wK
      clear hx hcs hkl
      go_upto_region 5 with fail
      go_region_held3 (fun w' => BelowC w w') (repeat (with_reducible first | assumption | exact bc_refl _ | apply bc_alloc | apply bc_drewN | apply bc_drew)) (first | (refine stepAppI (b := w) rfl (.tmp 11) (.tmp 17) rfl (.slice Au nu cu) (allL (L.take k)) rfl (ownI_below HO.out (by repeat (with_reducible first | assumption | exact bc_refl _ | apply bc_alloc | apply bc_drewN | apply bc_drew))) (some ⟨wK.heap.size, 0, none⟩) 1 1 [x.o] rfl (one_ns _ x.o) (by have h1 := HLE.out; rw [HT.out] at h1; simp only [List.length_append, List.length_singleton] at h1; omega) (by repeat (with_reducible first | assumption | exact bc_refl _ | apply bc_alloc | apply bc_drewN | apply bc_drew)) ?_; intro va wa hOa hBa; have HOa := hid hOa; clear hOa) | (refine stepAppI (b := w) rfl (.tmp 18) (.tmp 23) rfl va (allL (L.take k) ++ [x.o]) rfl HOa.out x.A x.n x.c x.f rfl (HN.out.below (by repeat (with_reducible first | assumption | exact bc_refl _ | apply bc_alloc | apply bc_drewN | apply bc_drew))) (by have h1 := HLE.out; rw [HT.out] at h1; simp only [List.length_append, List.length_singleton] at h1 ⊢; have h2 := HN.out.1; omega) (by repeat (with_reducible first | assumption | exact bc_refl _ | apply bc_alloc | apply bc_drewN | apply bc_drew)) ?_; intro vb wb hOb hBb; have HOb := hid hOb; clear hOb))
      all_goals
        go_wp2_with fail
        obtain ⟨Av, nv, cv, rfl, -, -, -, -⟩ := ownI_form HOb.out
        go_roundg (n - (k + 1))
        case measure => omega
        case rel => exact ⟨k + 1, Av, nv, cv, by omega, rfl, by go_num, rfl, hid (by rw [HT.out]; exact HOb.out), by repeat (with_reducible first | assumption | exact bc_refl _ | apply bc_alloc | apply bc_drewN | apply bc_drew)⟩
    · have e : L.take k = L := by have := HL.out; exact List.take_of_length_le (by omega)
      have HO1 : Hid (OwnI wK w (.slice Au nu cu) (allL L)) := hid (by have := HO.out; rw [e] at this; exact this)
      clear e
      go_wp2_with fail
      go_returns
      exact ⟨_, rfl, HO1.out, HK⟩
end Go.Proofs.Ytmokjaelgfikeaa.K
