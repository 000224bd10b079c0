/- Numbers in memory of the call's own: append, Sort, Compact. -/
import Derived.Test.YtabbceinagakfaaProg
import Derived.Below
import Derived.WalkKit
import Derived.KernelRfl
import Derived.RowKit
import Derived.RowKit3
import Derived.Tactics
import Derived.Deep.QuietTactic
import Derived.BigQuiet
import Derived.OwnWalk
import Derived.Outline
import Derived.Handy
import Derived.StillTailTactics
import Derived.Deep.RegionHeld3
import Derived.Deep.DeepCutAuto
import Derived.Deep.CutBlock
import Derived.Shelf.Abstract
import Derived.Shelf.SlSortCmp.QuietGrown
import Derived.Lib.SliceRun
import Derived.Sort.OwnSortedInts
import Derived.Lib.SlicesCompact
import Derived.Lib.SmallJoins
import Derived.SliceStrings
import Derived.ArgAppend
import Derived.Deep.Slices
import Derived.ChangeSame
import Derived.Lib.Strings
import Derived.Test.YtabbceinagakfaaD13
import Derived.Test.YtabbceinagakfaaShelf
namespace Go.Proofs.Ytabbceinagakfaa.K
open Go.RowKit Go.Proofs.YtabbceinagakfaaS
set_option linter.unusedSimpArgs false
set_option linter.unusedVariables false
attribute [local go_sem] s_leq s_gtr s_geq s_maxr s_minr
attribute [local go_sem] bc_alloc2 bc_alloc3 s_alloc_drewN s_setCell_drewN bc_alloc bc_drewN bc_drew

/-- Memory of the call's own that reads as these numbers. -/
def OwnI (w b : World) (v : Value) (xs : List Int) : Prop := w.ownsRow b.heap.size 3 1 v xs.length (xs.map (Value.int .i64))
theorem ownI_nil (w b : World) : OwnI w b (.slice none 0 0) [] := World.ownsRow_nil _ _ _ _
theorem ownI_below {w w' b : World} {v : Value} {xs : List Int} (h : OwnI w b v xs) (hb : BelowC w w') : OwnI w' b v xs :=
  World.ownsRow.kept h (row := none) ⟨hb.os, hb.tape, hb.output, hb.size, fun k hk _ => hb.block k hk⟩ (by cases v.ownBlock <;> simp)
theorem ownI_le {w b b' : World} {v : Value} {xs : List Int} (h : OwnI w b v xs) (hb : BelowC b' b) : OwnI w b' v xs := Go.Joins.ownsRow_le h (bc_size hb)
theorem inf3 : ∃ i : TypeInfo, Try.prog.info? 3 = some i ∧ i.bytes = 8 ∧ i.zero = some (.int .i64 0) ∧ i.size = 1 := ⟨_, rfl, rfl, rfl, rfl⟩
/-- append of a number to a slice of the call's own. -/
theorem app35 {ops : Array Oper} {rest : List Oper} {o : Oper} {a : Act} {w b : World} {Q : Exit → Act → World → Prop} (hgd : o.guard = none) (s x : Operand)
    (ho : o.op = .call { callee := .builtin .append, args := #[s, x], argTypes := #[35, 35] }) (v : Value) (xs : List Int) (hs : a.eval s = v) (hown : OwnI w b v xs)
    (g : Nat) (z : Int) (hx : a.eval x = .slice (some ⟨g, 0, none⟩) 1 1) (hz : w.cell? ⟨g, 0, none⟩ = some (.int .i64 z)) (hn : xs.length + 1 ≤ 17592186044416) (hB : BelowC b w)
    (h : ∀ v' w', OwnI w' b v' (xs ++ [z]) → BelowC b w' → wpList Try.prog ops Q rest (a.put o.dst v') w') : wpList Try.prog ops Q (o :: rest) a w := by
  obtain ⟨i, hi, hb, hzz, hsz⟩ := inf3
  have hml : maxLen = 9223372036854775807 := rfl
  refine wpList_append_own w hgd s x 35 ho b.heap.size 3 i _ 1 8 Try.underlying35 hi hzz hsz hb rfl (by decide) v xs.length (xs.map (Value.int .i64)) hs hown ⟨g, 0, none⟩ 1 1 [.int .i64 z] hx rfl (fun j u hj => by
    have hjl := (List.getElem?_eq_some_iff.1 hj).1
    match j, hjl with
    | 0, _ => cases hj; exact hz) (fun u hu => by simp at hu; subst hu; rfl) (by omega) (by omega) (bc_size hB) fun v' w' h1 h2 h3 => ?_
  refine h v' w' ?_ (bc_grown hB h2 fun k hk => (hown.lt k hk).1)
  unfold OwnI
  rw [List.map_append, List.length_append]
  exact h1
open Go.Sort in
theorem SortI (w b : World) (v : Value) (xs : List Int) (h : OwnI w b v xs) (hB : BelowC b w) (hlen : xs.length < 4611686018427387904) : Calls Try.prog 52 #[v] w fun e w' => e = .returned (.tuple #[]) ∧ OwnI w' b v (xs.mergeSort fun x y => decide (x ≤ y)) ∧ BelowC b w' := by
  have h' := h
  rcases h.2 with ⟨rfl, hn⟩ | ⟨g, cap, cur, rfl, hbg, hg, hnc, hcm, hcs, ht⟩
  · have e : xs = [] := List.eq_nil_of_length_eq_zero hn
    subst e
    refine (Try.slices_Sort_int_none none 0 w).mono ?_
    rintro e w' ⟨rfl, rfl⟩
    exact ⟨rfl, by simpa using ownI_nil _ _, hB⟩
  · rw [Nat.mul_one] at ht
    have hlt := (h'.lt g rfl).2
    refine (Try.slices_Sort_int g 0 cap xs w (holds_of_blockI hg ht) hlt hlen).mono ?_
    rintro e w' ⟨rfl, n, os, rfl⟩
    have hl : (xs.mergeSort fun x y => decide (x ≤ y)).length = xs.length := List.length_mergeSort _
    refine ⟨rfl, ?_, bc_grown hB (grownBy_sortedI _) (fun k hk => by cases hk; exact hbg)⟩
    unfold OwnI
    rw [hl]
    exact ownsRow_sortedI hl hbg hg hnc hcm hcs
theorem ownI_setCells {B g n cap : Nat} : ∀ (vs : List Value) (o : Nat) (w : World) (xs : List Value), w.ownsRow B 3 1 (.slice (some ⟨g, 0, none⟩) n cap) n xs → o + vs.length ≤ n →
    ∃ xs', (w.setCells g o vs).ownsRow B 3 1 (.slice (some ⟨g, 0, none⟩) n cap) n xs' ∧ (∀ j, j < o → xs'[j]? = xs[j]?) ∧ ∀ j, j < vs.length → xs'[o + j]? = vs[j]?
  | [], o, w, xs, h, _ => ⟨xs, h, fun _ _ => rfl, fun j hj => absurd hj (by simp)⟩
  | v :: r, o, w, xs, h, hle => by
    have hxl := h.1
    obtain ⟨xs', h', h1, h2⟩ := ownI_setCells r (o + 1) _ _ (h.stored o v).1 (by simp at hle; omega)
    simp only [List.length_cons] at hle
    refine ⟨xs', h', fun j hj => ?_, fun j hj => ?_⟩
    · rw [h1 j (by omega), List.getElem?_set_ne (by omega)]
    · cases j with
      | zero => rw [Nat.add_zero, h1 o (by omega), List.getElem?_set_self (by omega)]; simp
      | succ j => rw [show o + (j + 1) = o + 1 + j by omega, h2 j (by simpa using hj)]; simp
theorem ownI_cut {w b : World} {g n cap m : Nat} {xs : List Value} {ys : List Int} (h : w.ownsRow b.heap.size 3 1 (.slice (some ⟨g, 0, none⟩) n cap) n xs) (hm : m ≤ n) (hL : m = ys.length) (hx : xs.take m = ys.map (Value.int .i64)) : OwnI w b (.slice (some ⟨g, 0, none⟩) m cap) ys := by
  subst hL
  refine ⟨by simp, .inr ?_⟩
  rcases h.2 with ⟨h', _⟩ | ⟨g', cap', cur, h', hb, hg, hnc, hcm, hcs, htake⟩
  · simp at h'
  · simp only [Value.slice.injEq, Option.some.injEq, Addr.mk.injEq, and_true, true_and] at h'
    obtain ⟨rfl, rfl⟩ := h'
    refine ⟨g, cap, cur, rfl, hb, hg, by omega, hcm, hcs, ?_⟩
    rw [Nat.mul_one] at htake ⊢
    rw [← hx, ← htake, List.take_take, Nat.min_eq_left hm]
theorem compact_le (zs : List Int) : (Lib.compact zs).length ≤ zs.length := by
  unfold Lib.compact Lib.compactUpTo
  rw [List.length_map]
  refine Nat.le_trans (List.length_filter_le _ _) ?_
  simp
theorem CompactI (w b : World) (v : Value) (xs : List Int) (h : OwnI w b v xs) (hB : BelowC b w) : Calls Try.prog 53 #[v] w fun e w' => ∃ v', e = .returned v' ∧ OwnI w' b v' (Lib.compact xs) ∧ BelowC b w' := by
  have h' := h
  have hml : maxLen = 9223372036854775807 := rfl
  rcases h.2 with ⟨rfl, hn⟩ | ⟨g, cap, cur, rfl, hbg, hg, hnc, hcm, hcs, ht⟩
  · have e : xs = [] := List.eq_nil_of_length_eq_zero hn
    subst e
    refine (Try.slices_Compact_int_empty none 0 w).mono ?_
    rintro e w' ⟨rfl, rfl⟩
    exact ⟨_, rfl, ownI_nil _ _, hB⟩
  · refine (Try.slices_Compact_int_cells g 0 xs.length cap xs w (Nat.le_refl _) (by omega) hnc (fun j hj => ?_) (fun j hj => World.ownsRow.frozenAt h' _)).mono ?_
    · rw [Nat.zero_add, World.ownsRow.cellAt h' j (by omega)]
      simp [List.getD, hj]
    · rintro e w' ⟨rfl, q, rfl⟩
      rw [List.take_of_length_le (Nat.le_refl _)]
      have hc := compact_le xs
      have hq : (w.drewN q).ownsRow b.heap.size 3 1 (.slice (some ⟨g, 0, none⟩) xs.length cap) xs.length (xs.map (Value.int .i64)) := h'
      obtain ⟨xs', hx', _, h2⟩ := ownI_setCells ((Lib.compact xs ++ List.replicate (xs.length - (Lib.compact xs).length) 0).map (Value.int .i64)) 0 _ _ hq (by simp; omega)
      refine ⟨_, rfl, ownI_cut hx' hc rfl ?_, bc_setCells hbg _ _ _ (bc_drewN hB q)⟩
      apply List.ext_getElem?
      intro j
      by_cases hj : j < (Lib.compact xs).length
      · have := h2 j (by simp; omega)
        rw [Nat.zero_add] at this
        rw [List.getElem?_take_of_lt hj, this]
        rw [List.getElem?_map, List.getElem?_append_left hj, List.getElem?_map]
      · rw [List.getElem?_take_eq_none (by omega), List.getElem?_eq_none (by simp; omega)]
/-- Who is in the way. -/
def othersL (L : List LockV) (x : LockV) : List Int := Lib.compact (((L.filter (clashL x)).map (·.owner)).mergeSort fun x y => decide (x ≤ y))
def RetI (xs : List Int) (w : World) (e : Ending) (w' : World) : Prop := ∃ v, e = .returned v ∧ OwnI w' w v xs ∧ BelowC w w'
end Go.Proofs.Ytabbceinagakfaa.K
