/- A set of numbers held in a map; its keys, sorted. -/
import Derived.Test.YtmokjaelgfikeaaProg
import Derived.Below
import Derived.WalkKit
import Derived.KernelRfl
import Derived.RowKit
import Derived.RowKit3
import Derived.Tactics
import Derived.Deep.QuietTactic
import Derived.BigQuiet
import Derived.OwnWalk
import Derived.Outline
import Derived.Handy
import Derived.StillTailTactics
import Derived.Deep.RegionHeld3
import Derived.Deep.DeepCutAuto
import Derived.Deep.CutBlock
import Derived.Shelf.Abstract
import Derived.Shelf.SlSortCmp.QuietGrown
import Derived.Lib.SliceRun
import Derived.Sort.OwnSortedInts
import Derived.Lib.SlicesCompact
import Derived.Lib.SmallJoins
import Derived.SliceStrings
import Derived.ArgAppend
import Derived.Deep.AppendSrc
import Derived.Deep.Upon
import Derived.Deep.Slices
import Derived.ChangeSame
import Derived.Maps.OwnSet
import Derived.Maps.Range
import Derived.Maps.OwnOps
import Derived.Lib.SlKeysI
import Derived.Maps.Views
import Derived.Test.YtmokjaelgfikeaaC1
import Derived.Test.YtmokjaelgfikeaaShelf
namespace Go.Proofs.Ytmokjaelgfikeaa.K
open Go.RowKit
set_option linter.unusedSimpArgs false
set_option linter.unusedVariables false
attribute [local go_sem] bc_alloc2 bc_alloc3 s_alloc_drewN s_setCell_drewN bc_alloc bc_drewN bc_drew

open Go.Maps
abbrev il (z : Int) : Lit := .int .i64 z
def wfI (z : Int) : Bool := (Lit.int .i64 z).wf
abbrev tt : DataW Unit := .lit (.bool true)
def setD (S : List Int) : DataW Unit := setOf tt (S.map il)
theorem setD_snoc (S : List Int) (z : Int) : setD (S ++ [z]) = (setD S).put (il z) tt := by
  unfold setD
  rw [List.map_append, List.map_singleton, setOf_snoc]
theorem rev_ind {p : List Int → Prop} (h0 : p []) (h1 : ∀ T y, p T → p (T ++ [y])) (S : List Int) : p S := by
  rw [← List.reverse_reverse S]
  induction S.reverse with
  | nil => exact h0
  | cons y T ih =>
    rw [List.reverse_cons]
    exact h1 _ _ ih
theorem il_key (S : List Int) : ∀ x ∈ S.map il, WideAt.IsKeyLit x := by
  intro x hx
  obtain ⟨z, _, rfl⟩ := List.mem_map.1 hx
  trivial
theorem setD_tidy (S : List Int) : Tidy (setD S) := tidy_setOf _ _ (il_key S)
theorem same_il (a b : Int) : (il a).sameKey (il b) = (a == b) := by
  simp [il, Lit.sameKey]
  rw [Bool.eq_iff_iff]
  simp
theorem has_setD (S : List Int) (z : Int) : has (setD S) (il z) = decide (z ∈ S) := by
  unfold setD
  rw [has_setOf _ _ _ (il_key S), List.any_map, Bool.eq_iff_iff, List.any_eq_true, decide_eq_true_eq]
  constructor
  · rintro ⟨x, hx, h⟩
    rw [Function.comp, same_il] at h
    rw [← eq_of_beq h]
    exact hx
  · intro h
    exact ⟨z, h, by rw [Function.comp, same_il]; simp⟩
theorem at_setD (S : List Int) (z : Int) : (setD S).atKey (il z) (.lit (.bool false)) = .lit (.bool (decide (z ∈ S))) := by
  refine rev_ind (p := fun S => (setD S).atKey (il z) (.lit (.bool false)) = .lit (.bool (decide (z ∈ S)))) ?_ ?_ S
  · exact atKey_of_not_has (by rw [has_setD]; simp) _
  · intro T y ih
    rw [setD_snoc]
    by_cases e : y = z
    · subst e
      rw [atKey_put_same (setD_tidy T).isMap (show WideAt.IsKeyLit (il y) from trivial)]
      simp
    · have hne : il z ≠ il y := fun h => e (by simpa [il] using h.symm)
      rw [atKey_put_other hne, ih]
      simp [show ¬ z = y from fun h => e h.symm]
/-- A map of the call's own that holds just these numbers. -/
def SetM (w : World) (b n : Nat) (S : List Int) : Prop := w.ownsMap Try.prog 3 (plainElem Try.prog 4) b n (setD S)
theorem SetM.kept {w w' : World} {b n : Nat} {S : List Int} (h : SetM w b n S) (hg : w.grownBy w' none) : SetM w' b n S := World.ownsMap.kept h hg (by simp)
theorem SetM.below {w w' : World} {b n : Nat} {S : List Int} (h : SetM w b n S) (hb : BelowC w w') : SetM w' b n S :=
  World.ownsMap.kept h (row := none) ⟨hb.os, hb.tape, hb.output, hb.size, fun k hk _ => hb.block k hk⟩ (by simp)
theorem setM_made (w : World) : SetM (w.alloc (.map #[] 0)) w.heap.size 0 [] := World.ownsMap_made _ _ _ _
theorem zero4 (w : World) : (zeroValue 4).run Try.prog w = .ok (.bool false) w := by kernel_rfl
theorem law3 : Keyed Try.prog 3 := int_keyed Try.underlying3
theorem key3 {z : Int} (h : wfI z = true) : keyOf Try.prog 3 (.int .i64 z) = some (il z) := keyOf_int_mk Try.underlying3 h
theorem bool_inv {v : Value} {z : DataW Unit × List MemPlace} (h : plainElem Try.prog 4 v = some z) : ∃ x, v = .bool x ∧ z = (.lit (.bool x), []) := by
  unfold plainElem at h
  rw [Try.underlying4] at h
  cases v <;> simp at h
  exact ⟨_, rfl, h.symm⟩
theorem SetM.look {w : World} {b n : Nat} {S : List Int} (h : SetM w b n S) {z : Int} (hz : wfI z = true) : (Instr.lookup 55 (.map (some b)) (.int .i64 z) false).run Try.prog w = .ok (.bool (decide (z ∈ S))) w := by
  obtain ⟨v, ps, hrun, hv⟩ := World.ownsMap.lookup h law3 Try.underlying55 (zero4 w) (plainElem_bool Try.underlying4 false) (key3 hz)
  rw [at_setD] at hv
  obtain ⟨x, rfl, e⟩ := bool_inv hv
  simp only [Prod.mk.injEq, DataW.lit.injEq, Lit.bool.injEq] at e
  rw [hrun, e.1]
theorem look55 (w : World) {ops : Array Oper} {rest : List Oper} {o : Oper} {a : Act} {Q : Exit → Act → World → Prop}
    (hg : o.guard = none) (m x : Operand) (hop : o.op = Op.lookup 55 m x false) (b n : Nat) (S : List Int) (z : Int)
    (hm : a.eval m = .map (some b)) (h : SetM w b n S) (hx : a.eval x = .int .i64 z) (hz : wfI z = true)
    (hK : wpList Try.prog ops Q rest (a.put o.dst (.bool (decide (z ∈ S)))) w) : wpList Try.prog ops Q (o :: rest) a w := by
  refine wpList_plain hg fun K' hK' => ?_
  have hrun := h.look hz
  unfold Oper.wp
  simp [execOp, hop, hm, hx, hrun, Result.andThen]
  exact hK' _ _ hK
theorem store55 (w : World) {ops : Array Oper} {rest : List Oper} {o : Oper} {a : Act} {Q : Exit → Act → World → Prop}
    (hg : o.guard = none) (m x v : Operand) (hop : o.op = Op.mapUpdate 55 m x v) (b n : Nat) (S : List Int) (z : Int)
    (hm : a.eval m = .map (some b)) (h : SetM w b n S) (hn : n < maxLen) (hx : a.eval x = .int .i64 z) (hv : a.eval v = .bool true) (hz : wfI z = true)
    (hK : ∀ w', SetM w' b (n + 1) (S ++ [z]) → w.grownBy w' (some b) → wpList Try.prog ops Q rest (a.put o.dst undef) w') : wpList Try.prog ops Q (o :: rest) a w :=
  wpList_mapUpdate_own w hg m x v 55 hop 3 4 law3 Try.underlying55 _ b n _ hm h hn _ _ (il z) hx hv (key3 hz) tt [] (plainElem_bool Try.underlying4 true) fun w' h1 h2 => hK w' (by unfold SetM; rw [setD_snoc]; exact h1) h2
/-- The numbers of a list, in order, each once. -/
def ordL (S : List Int) : List Int := Lib.compact (S.mergeSort fun x y => decide (x ≤ y))
theorem ord_strict (S : List Int) : Strict (ordL S) := (compact_strict (sorted_le S)).1
theorem mem_ord {S : List Int} {z : Int} : z ∈ ordL S ↔ z ∈ S := by
  unfold ordL
  rw [(compact_strict (sorted_le S)).2, List.mem_mergeSort]
theorem insert_keys {x : Lit × DataW Unit} (hx : ∃ z, x.1 = il z) : ∀ l : List (Lit × DataW Unit), (∀ p ∈ l, ∃ z, p.1 = il z) → ∀ p ∈ DataW.insert x l, ∃ z, p.1 = il z
  | [], _, p, hp => by
    rw [DataW.insert, List.mem_singleton] at hp
    rw [hp]; exact hx
  | y :: r, h, p, hp => by
    rw [DataW.insert] at hp
    split at hp
    · rcases List.mem_cons.1 hp with e | e
      · rw [e]; exact hx
      · exact h p e
    · rcases List.mem_cons.1 hp with e | e
      · rw [e]; exact h y (List.mem_cons_self)
      · exact insert_keys hx r (fun q hq => h q (List.mem_cons_of_mem _ hq)) p e
theorem setD_keys (S : List Int) : ∃ es, setD S = .map es ∧ ∀ p ∈ es, ∃ z, p.1 = il z := by
  refine rev_ind (p := fun S => ∃ es, setD S = .map es ∧ ∀ p ∈ es, ∃ z, p.1 = il z) ⟨[], rfl, by simp⟩ ?_ S
  rintro T y ⟨es, e, h⟩
  rw [setD_snoc, e]
  exact ⟨_, rfl, insert_keys ⟨y, rfl⟩ _ fun p hp => h p (List.mem_filter.1 hp).1⟩
theorem strict_nodup {xs : List Int} (h : Strict xs) : xs.Nodup := h.imp fun h => by omega
theorem strict_sorted {xs : List Int} (h : Strict xs) : xs.mergeSort leI = xs := List.mergeSort_of_pairwise (h.imp fun h => by simp [leI]; omega)
theorem keys_ord {S ss : List Int} (h : ss.Perm (intKeys (setD S))) : ss.mergeSort leI = ordL S := by
  obtain ⟨es, e, hk⟩ := setD_keys S
  obtain ⟨es', e', hp⟩ := setD_tidy S
  rw [e] at e'
  cases e'
  have h2 : (ordL S).Perm (intKeys (.map es)) := perm_intKeys hp hk (strict_nodup (ord_strict S)) (fun x => by rw [← e, has_setD, mem_ord, decide_eq_true_eq])
  rw [e] at h
  rw [mergeSort_of_perm_i (h.trans h2.symm), strict_sorted (ord_strict S)]
open Go.Sort Go.Shelf in
theorem sortsC (m : Nat) : AnyZI.SortsIn Try.prog Try.sorted38_ren Fence.wide m :=
  ⟨fun blk off cap ss W hH hblk hsz => callsIn_wide.2 (AnyM.slices_Sort_int Try.sort43 blk off cap ss W hH hblk hsz),
   fun p cap W => callsIn_wide.2 (AnyM.slices_Sort_int_none Try.sort43 p cap W)⟩
open Go.Sort Go.Shelf in
theorem Keys39 (mb : Option Nat) (W : World) : Calls Try.prog 39 #[.map mb] W fun e w' => e = .returned (.func (.func 44) #[] #[.pointer (some ⟨W.heap.size, 0, none⟩)]) ∧ w' = W.alloc (.cells #[.map mb] 55) :=
  callsIn_wide.1 (AnyZI.keys_in Try.keys39 Fence.wide 5 trivial rfl mb W)
theorem size_setD (S : List Int) (n : Nat) {w : World} {b : Nat} (h : SetM w b n S) : Maps.size (setD S) ≤ n := by
  obtain ⟨es, clock, _, _, hs, hD⟩ := h
  rw [hD, size_eq, length_sorted]
  simpa using hs
set_option maxHeartbeats 1000000 in
open Go.Sort Go.Shelf in
theorem Sorted38 (b nn : Nat) (S : List Int) (w : World) (hown : SetM w b nn S) (hn : nn ≤ 17592186044416) :
    Calls Try.prog 38 #[.func (.func 44) #[] #[.pointer (some ⟨w.heap.size, 0, none⟩)]] (w.alloc (.cells #[.map (some b)] 55)) fun e w' => ∃ v, e = .returned v ∧ OwnI w' (w.alloc (.cells #[.map (some b)] 55)) v (ordL S) ∧ BelowC (w.alloc (.cells #[.map (some b)] 55)) w' := by
  have hbl := World.ownsMap.lt hown
  have hsz := size_setD S nn hown
  have hseq : SeqGives Fence.wide 2 Try.prog 44 #[.pointer (some ⟨w.heap.size, 0, none⟩)] encZ (fun ss => ss.Perm (intKeys (setD S))) (Maps.size (setD S)) (w.alloc (.cells #[.map (some b)] 55)) :=
    AnyZI.keys_gives (ρ := Try.keys39_ren) { Try.keys39 with } Fence.wide _ trivial rfl (by omega) w.heap.size b nn (setD S) _ (by simp) (by simp) (by
      obtain ⟨es, clock, hb, Ft, hs, hD⟩ := hown
      exact ⟨es, clock, (Below.heap_alloc _ _ b hbl).trans hb, Ft, hs, hD⟩)
  have cS := AnyZI.sorted_in Try.sorted38 Fence.wide 5 trivial trivial trivial trivial rfl (by omega) (sortsC _) (enters_of Try.func43 (by kernel_rfl) rfl) 44 #[.pointer (some ⟨w.heap.size, 0, none⟩)] trivial (enters_of Try.func44 (by kernel_rfl) rfl) _ _ (by unfold maxLen; omega) (by omega) _ hseq
  change CallsIn _ _ Try.prog 38 _ _ _ at cS
  refine (callsIn_wide.1 cS).mono ?_
  rintro e w' ⟨v, ss, rfl, hS, hrow, hnil, hb⟩
  refine ⟨v, rfl, ?_, hb⟩
  have e := keys_ord hS
  have hl : ss.length = (ordL S).length := by rw [← e, List.length_mergeSort]
  unfold OwnI
  rw [← hl]
  rw [← e]
  exact hrow
end Go.Proofs.Ytmokjaelgfikeaa.K
