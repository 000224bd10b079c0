/- Worlds that only grow; slices of numbers. -/
import Derived.Test.YtmokjaelgfikeaaProg
import Derived.Below
import Derived.WalkKit
import Derived.KernelRfl
import Derived.RowKit
import Derived.RowKit3
import Derived.Tactics
import Derived.Deep.QuietTactic
import Derived.BigQuiet
import Derived.OwnWalk
import Derived.Outline
import Derived.Handy
import Derived.StillTailTactics
import Derived.Deep.RegionHeld3
import Derived.Deep.DeepCutAuto
import Derived.Deep.CutBlock
import Derived.Shelf.Abstract
import Derived.Shelf.SlSortCmp.QuietGrown
import Derived.Lib.SliceRun
import Derived.Sort.OwnSortedInts
import Derived.Lib.SlicesCompact
import Derived.Lib.SmallJoins
import Derived.SliceStrings
import Derived.ArgAppend
import Derived.Deep.AppendSrc
import Derived.Deep.Upon
import Derived.Deep.Slices
import Derived.ChangeSame
import Derived.Maps.OwnSet
import Derived.Maps.Range
namespace Go.Proofs.Ytmokjaelgfikeaa.K
open Go.RowKit
set_option linter.unusedSimpArgs false
set_option linter.unusedVariables false
/-- Where only reads and new memory happened: the old world is as it was. -/
def Ret (v : Value) (w : World) (e : Ending) (w' : World) : Prop := e = .returned v ∧ Below w.heap.size w w'
theorem hid {p : Prop} (h : p) : Hid p := h
theorem bcell {W w1 : World} (hb : Below W.heap.size W w1) : (∀ b o, b < W.heap.size → w1.cell? ⟨b, o, none⟩ = W.cell? ⟨b, o, none⟩) ∧ (∀ b o, b < W.heap.size → w1.frozen? ⟨b, o, none⟩ = W.frozen? ⟨b, o, none⟩) ∧ W.heap.size ≤ w1.heap.size :=
  ⟨fun b o h => hb.cell (p := ⟨b, o, none⟩) h, fun b o h => hb.frozen (p := ⟨b, o, none⟩) h, hb.size⟩
theorem below_step {w W w1 : World} (h : Below w.heap.size w W) (hb : Below W.heap.size W w1) : Below w.heap.size w w1 := h.trans (hb.mono h.size)
theorem below_alloc {w a : World} (h : Below w.heap.size w a) (o : Obj) : Below w.heap.size w (a.alloc o) := h.alloc h.size o
theorem below_set {w W : World} {g j : Nat} {v : Value} (h : Below w.heap.size w W) (hg : w.heap.size ≤ g) : Below w.heap.size w (W.setCell ⟨g, j, none⟩ v) := h.setCell hg _
theorem below_drewN {w a : World} (h : Below w.heap.size w a) (n : Nat) : Below w.heap.size w (a.drewN n) := ⟨h.os, h.tape, h.output, h.size, h.block⟩
theorem below_drew {w a : World} (h : Below w.heap.size w a) : Below w.heap.size w a.drew := h.drew

/-- The second world is the first one, with more memory: what was there is as it was. -/
def BelowC (b w : World) : Prop := Below b.heap.size b w
theorem bc_refl (b : World) : BelowC b b := Below.refl _ _
theorem bc_step {b W w1 : World} (h : BelowC b W) (hb : Below W.heap.size W w1) : BelowC b w1 := below_step h hb
theorem bc_alloc {b W : World} (h : BelowC b W) (o : Obj) : BelowC b (W.alloc o) := below_alloc h o
theorem bc_drewN {b W : World} (h : BelowC b W) (n : Nat) : BelowC b (W.drewN n) := below_drewN h n
theorem bc_drew {b W : World} (h : BelowC b W) : BelowC b W.drew := below_drew h
theorem bc_trans {a b c : World} (h : BelowC a b) (k : BelowC b c) : BelowC a c := below_step h k
theorem bc_size {b W : World} (h : BelowC b W) : b.heap.size ≤ W.heap.size := Below.size h
theorem bc_lt {b W : World} (h : BelowC b W) {k : Nat} (hk : k < b.heap.size) : k < W.heap.size := Nat.lt_of_lt_of_le hk (bc_size h)
theorem bc_cell {b : World} {k o : Nat} {v : Value} (h : b.cell? ⟨k, o, none⟩ = some v) (hk : k < b.heap.size) : ∀ w', BelowC b w' → w'.cell? ⟨k, o, none⟩ = some v := fun w' hw => (Below.cell hw (p := ⟨k, o, none⟩) hk).trans h
theorem s_alloc_drewN (w : World) (n : Nat) (o : Obj) : (w.drewN n).alloc o = (w.alloc o).drewN n := rfl
theorem s_setCell_drewN (w : World) (n : Nat) (p : Addr) (v : Value) : (w.drewN n).setCell p v = (w.setCell p v).drewN n := rfl
theorem bc_alloc2 {b W : World} (h : BelowC b W) (o o' : Obj) : BelowC b ((W.alloc o).alloc o') := bc_alloc (bc_alloc h o) o'
theorem bc_alloc3 {b W : World} (h : BelowC b W) (o o' o'' : Obj) : BelowC b (((W.alloc o).alloc o').alloc o'') := bc_alloc (bc_alloc2 h o o') o''
theorem bc_set {b W : World} {g j : Nat} {v : Value} (h : BelowC b W) (hg : b.heap.size ≤ g) : BelowC b (W.setCell ⟨g, j, none⟩ v) := below_set h hg
theorem bc_frozen {b : World} {k : Nat} (h : ∀ o, b.frozen? ⟨k, o, none⟩ = false) (hk : k < b.heap.size) : ∀ w', BelowC b w' → ∀ o, w'.frozen? ⟨k, o, none⟩ = false := fun w' hw o => (Below.frozen hw (p := ⟨k, o, none⟩) hk).trans (h o)
theorem bc_grown {b w w' : World} {row : Option Nat} (h : BelowC b w) (hg : w.grownBy w' row) (hrow : ∀ k, row = some k → b.heap.size ≤ k) : BelowC b w' :=
  ⟨hg.os.trans h.os, hg.tape.trans h.tape, hg.output.trans h.output, Nat.le_trans h.size hg.size, fun k hk => (hg.block k (Nat.lt_of_lt_of_le hk h.size) (fun e => by have := hrow k e.symm; omega)).trans (h.block k hk)⟩
/-- Memory of the call's own that reads as these numbers. -/
def OwnI (w b : World) (v : Value) (xs : List Int) : Prop := w.ownsRow b.heap.size 3 1 v xs.length (xs.map (Value.int .i64))
theorem ownI_nil (w b : World) : OwnI w b (.slice none 0 0) [] := World.ownsRow_nil _ _ _ _
theorem ownI_below {w w' b : World} {v : Value} {xs : List Int} (h : OwnI w b v xs) (hb : BelowC w w') : OwnI w' b v xs :=
  World.ownsRow.kept h (row := none) ⟨hb.os, hb.tape, hb.output, hb.size, fun k hk _ => hb.block k hk⟩ (by cases v.ownBlock <;> simp)
theorem ownI_le {w b b' : World} {v : Value} {xs : List Int} (h : OwnI w b v xs) (hb : BelowC b' b) : OwnI w b' v xs := Go.Joins.ownsRow_le h (bc_size hb)
theorem inf3 : ∃ i : TypeInfo, Try.prog.info? 3 = some i ∧ i.bytes = 8 ∧ i.zero = some (.int .i64 0) ∧ i.size = 1 := ⟨_, rfl, rfl, rfl, rfl⟩
/-- append of a number to a slice of the call's own. -/
theorem app23 {ops : Array Oper} {rest : List Oper} {o : Oper} {a : Act} {w b : World} {Q : Exit → Act → World → Prop} (hgd : o.guard = none) (s x : Operand)
    (ho : o.op = .call { callee := .builtin .append, args := #[s, x], argTypes := #[23, 23] }) (v : Value) (xs : List Int) (hs : a.eval s = v) (hown : OwnI w b v xs)
    (g : Nat) (z : Int) (hx : a.eval x = .slice (some ⟨g, 0, none⟩) 1 1) (hz : w.cell? ⟨g, 0, none⟩ = some (.int .i64 z)) (hn : xs.length + 1 ≤ 17592186044416) (hB : BelowC b w)
    (h : ∀ v' w', OwnI w' b v' (xs ++ [z]) → BelowC b w' → wpList Try.prog ops Q rest (a.put o.dst v') w') : wpList Try.prog ops Q (o :: rest) a w := by
  obtain ⟨i, hi, hb, hzz, hsz⟩ := inf3
  have hml : maxLen = 9223372036854775807 := rfl
  refine wpList_append_own w hgd s x 23 ho b.heap.size 3 i _ 1 8 Try.underlying23 hi hzz hsz hb rfl (by decide) v xs.length (xs.map (Value.int .i64)) hs hown ⟨g, 0, none⟩ 1 1 [.int .i64 z] hx rfl (fun j u hj => by
    have hjl := (List.getElem?_eq_some_iff.1 hj).1
    match j, hjl with
    | 0, _ => cases hj; exact hz) (fun u hu => by simp at hu; subst hu; rfl) (by omega) (by omega) (bc_size hB) fun v' w' h1 h2 h3 => ?_
  refine h v' w' ?_ (bc_grown hB h2 fun k hk => (hown.lt k hk).1)
  unfold OwnI
  rw [List.map_append, List.length_append]
  exact h1
theorem ownI_setCells {B g n cap : Nat} : ∀ (vs : List Value) (o : Nat) (w : World) (xs : List Value), w.ownsRow B 3 1 (.slice (some ⟨g, 0, none⟩) n cap) n xs → o + vs.length ≤ n →
    ∃ xs', (w.setCells g o vs).ownsRow B 3 1 (.slice (some ⟨g, 0, none⟩) n cap) n xs' ∧ (∀ j, j < o → xs'[j]? = xs[j]?) ∧ ∀ j, j < vs.length → xs'[o + j]? = vs[j]?
  | [], o, w, xs, h, _ => ⟨xs, h, fun _ _ => rfl, fun j hj => absurd hj (by simp)⟩
  | v :: r, o, w, xs, h, hle => by
    have hxl := h.1
    obtain ⟨xs', h', h1, h2⟩ := ownI_setCells r (o + 1) _ _ (h.stored o v).1 (by simp at hle; omega)
    simp only [List.length_cons] at hle
    refine ⟨xs', h', fun j hj => ?_, fun j hj => ?_⟩
    · rw [h1 j (by omega), List.getElem?_set_ne (by omega)]
    · cases j with
      | zero => rw [Nat.add_zero, h1 o (by omega), List.getElem?_set_self (by omega)]; simp
      | succ j => rw [show o + (j + 1) = o + 1 + j by omega, h2 j (by simpa using hj)]; simp
theorem ownI_cut {w b : World} {g n cap m : Nat} {xs : List Value} {ys : List Int} (h : w.ownsRow b.heap.size 3 1 (.slice (some ⟨g, 0, none⟩) n cap) n xs) (hm : m ≤ n) (hL : m = ys.length) (hx : xs.take m = ys.map (Value.int .i64)) : OwnI w b (.slice (some ⟨g, 0, none⟩) m cap) ys := by
  subst hL
  refine ⟨by simp, .inr ?_⟩
  rcases h.2 with ⟨h', _⟩ | ⟨g', cap', cur, h', hb, hg, hnc, hcm, hcs, htake⟩
  · simp at h'
  · simp only [Value.slice.injEq, Option.some.injEq, Addr.mk.injEq, and_true, true_and] at h'
    obtain ⟨rfl, rfl⟩ := h'
    refine ⟨g, cap, cur, rfl, hb, hg, by omega, hcm, hcs, ?_⟩
    rw [Nat.mul_one] at htake ⊢
    rw [← hx, ← htake, List.take_take, Nat.min_eq_left hm]
/-- A slice of numbers. -/
def Ns (w : World) (A : Option Addr) (n : Nat) (l : List Int) : Prop :=
  n = l.length ∧ n ≤ 9223372036854775807 ∧ (0 < n → ∃ b o, A = some ⟨b, o, none⟩ ∧ b < w.heap.size ∧ ∀ i (h : i < l.length), w.cell? ⟨b, o + i, none⟩ = some (.int .i64 l[i]))
theorem Ns.below {w w' : World} {A : Option Addr} {n : Nat} {l : List Int} (h : Ns w A n l) (hb : BelowC w w') : Ns w' A n l := by
  refine ⟨h.1, h.2.1, fun h0 => ?_⟩
  obtain ⟨b, o, e, hlt, hc⟩ := h.2.2 h0
  exact ⟨b, o, e, bc_lt hb hlt, fun i hi => bc_cell (hc i hi) hlt w' hb⟩
theorem ownI_at {w b : World} {g n cap : Nat} {xs : List Int} (h : OwnI w b (.slice (some ⟨g, 0, none⟩) n cap) xs) (hn : n = xs.length) {j : Nat} (hj : j < xs.length) : w.cell? ⟨g, j, none⟩ = some (.int .i64 xs[j]) := by
  subst hn
  rw [World.ownsRow.cellAt h j (by omega)]
  simp [hj]
theorem ownI_fz {w b : World} {g n cap : Nat} {xs : List Int} (h : OwnI w b (.slice (some ⟨g, 0, none⟩) n cap) xs) (hn : n = xs.length) : ∀ o, w.frozen? ⟨g, o, none⟩ = false := by
  subst hn
  exact fun o => World.ownsRow.frozenAt h o
theorem ownI_set {w b : World} {g n cap : Nat} {xs : List Int} (h : OwnI w b (.slice (some ⟨g, 0, none⟩) n cap) xs) (hn : n = xs.length) (j : Nat) (z : Int) : OwnI (w.setCell ⟨g, j, none⟩ (.int .i64 z)) b (.slice (some ⟨g, 0, none⟩) n cap) (xs.set j z) := by
  subst hn
  unfold OwnI at h ⊢
  rw [List.length_set, List.map_set]
  exact (World.ownsRow.stored h j _).1
theorem ownI_form {w b : World} {v : Value} {xs : List Int} (h : OwnI w b v xs) : ∃ A n c, v = .slice A n c ∧ n = xs.length ∧ n ≤ c ∧ Ns w A n xs ∧ (∀ a, A = some a → ∃ g, a = ⟨g, 0, none⟩ ∧ b.heap.size ≤ g ∧ g < w.heap.size) := by
  have hml : maxLen = 9223372036854775807 := rfl
  have h' := h
  rcases h.2 with ⟨rfl, hn⟩ | ⟨g, cap, cur, rfl, hbg, hg, hnc, hcm, hcs, _⟩
  · exact ⟨none, 0, 0, rfl, hn.symm, Nat.le_refl _, ⟨hn.symm, by simp, fun h => absurd h (by simp)⟩, fun a e => by cases e⟩
  · have hlt := (h'.lt g rfl).2
    refine ⟨_, _, cap, rfl, rfl, hnc, ⟨rfl, by omega, fun h0 => ⟨g, 0, rfl, hlt, fun i hi => ?_⟩⟩, fun a e => by cases e; exact ⟨g, rfl, hbg, hlt⟩⟩
    rw [Nat.zero_add]
    exact ownI_at h' rfl hi
def Strict (xs : List Int) : Prop := xs.Pairwise (· < ·)
/-- One put in its place. -/
def insAt (xs : List Int) (k : Nat) (z : Int) : List Int := xs.take k ++ z :: xs.drop k
theorem insAt_strict {xs : List Int} {k : Nat} {z : Int} (h : Strict xs) (hk : k ≤ xs.length) (h1 : ∀ j (hj : j < xs.length), j < k → xs[j] < z) (h2 : ∀ (hk : k < xs.length), z < xs[k]) : Strict (insAt xs k z) := by
  unfold Strict insAt at *
  rw [List.pairwise_append]
  have hd : ∀ y ∈ xs.drop k, z < y := by
    intro y hy
    obtain ⟨j, hj, rfl⟩ := List.mem_iff_getElem.1 hy
    rw [List.length_drop] at hj
    rw [List.getElem_drop]
    have hkl : k < xs.length := by omega
    rcases Nat.eq_zero_or_pos j with e | e
    · subst e; exact h2 hkl
    · exact Int.lt_trans (h2 hkl) (List.pairwise_iff_getElem.1 h k (k + j) hkl (by omega) (by omega))
  have ht : ∀ y ∈ xs.take k, y < z := by
    intro y hy
    obtain ⟨j, hj, rfl⟩ := List.mem_iff_getElem.1 hy
    rw [List.length_take] at hj
    rw [List.getElem_take]
    exact h1 j (by omega) (by omega)
  refine ⟨h.sublist (List.take_sublist _ _), ?_, ?_⟩
  · rw [List.pairwise_cons]
    exact ⟨hd, h.sublist (List.drop_sublist _ _)⟩
  · intro a ha c hc
    rcases List.mem_cons.1 hc with e | e
    · subst e; exact ht a ha
    · exact Int.lt_trans (ht a ha) (hd c e)
theorem insAt_mem {xs : List Int} {k : Nat} {z y : Int} : y ∈ insAt xs k z ↔ y = z ∨ y ∈ xs := by
  unfold insAt
  rw [List.mem_append, List.mem_cons]
  conv => rhs; rw [← List.take_append_drop k xs, List.mem_append]
  constructor <;> rintro (h | h | h) <;> simp [h]
/-- What a strictly rising list is, is told by its members. -/
theorem strict_unique : ∀ {xs ys : List Int}, Strict xs → Strict ys → (∀ z, z ∈ xs ↔ z ∈ ys) → xs = ys
  | [], [], _, _, _ => rfl
  | [], y :: ys, _, _, h => absurd ((h y).2 (by simp)) (by simp)
  | x :: xs, [], _, _, h => absurd ((h x).1 (by simp)) (by simp)
  | x :: xs, y :: ys, hx, hy, h => by
    unfold Strict at hx hy
    rw [List.pairwise_cons] at hx hy
    have e : x = y := by
      rcases List.mem_cons.1 ((h x).1 (by simp)) with e | e
      · exact e
      · rcases List.mem_cons.1 ((h y).2 (by simp)) with e' | e'
        · exact e'.symm
        · have := hx.1 y e'; have := hy.1 x e; omega
    subst e
    congr 1
    refine strict_unique hx.2 hy.2 fun z => ?_
    constructor
    · intro hz
      rcases List.mem_cons.1 ((h z).1 (by simp [hz])) with e | e
      · have := hx.1 z hz; omega
      · exact e
    · intro hz
      rcases List.mem_cons.1 ((h z).2 (by simp [hz])) with e | e
      · have := hy.1 z hz; omega
      · exact e
/-- Of a list in order each once: strictly rising, the same members. -/
theorem compact_strict {xs : List Int} (h : xs.Pairwise (· ≤ ·)) : Strict (Lib.compact xs) ∧ ∀ z, z ∈ Lib.compact xs ↔ z ∈ xs := by
  have key : ∀ m, m ≤ xs.length → Strict (Lib.compactUpTo xs.toArray m) ∧ (∀ z, z ∈ Lib.compactUpTo xs.toArray m ↔ z ∈ xs.take m) := by
    intro m
    induction m with
    | zero => intro _; simp [Lib.compactUpTo, Strict]
    | succ m ih =>
      intro hm
      obtain ⟨i1, i2⟩ := ih (by omega)
      have hml : m < xs.length := by omega
      have hg : xs.toArray[m]! = xs[m] := by simp [hml]
      rw [Lib.compactUpTo_succ]
      have htk : ∀ z, z ∈ xs.take (m + 1) ↔ z ∈ xs.take m ∨ z = xs[m] := by
        intro z
        rw [List.take_add_one, List.getElem?_eq_getElem hml, Option.toList_some, List.mem_append, List.mem_singleton]
      cases hk : Lib.keeps xs.toArray m with
      | true =>
        rw [if_pos rfl, hg]
        refine ⟨?_, fun z => ?_⟩
        · unfold Strict at *
          rw [List.pairwise_append]
          refine ⟨i1, by simp, fun a ha c hc => ?_⟩
          rw [List.mem_singleton] at hc
          subst hc
          obtain ⟨j, hj, rfl⟩ := List.mem_iff_getElem.1 ((i2 a).1 ha)
          rw [List.length_take] at hj
          rw [List.getElem_take]
          have hm0 : 0 < m := by omega
          have hne : xs[m] ≠ xs[m - 1] := by
            have := hk
            simp only [Lib.keeps, decide_eq_true_eq] at this
            rcases this with e | e
            · omega
            · rw [hg] at e
              have hg1 : xs.toArray[m - 1]! = xs[m - 1] := by simp [show m - 1 < xs.length by omega]
              rw [hg1] at e
              exact e
          have hle : xs[m - 1] ≤ xs[m] := List.pairwise_iff_getElem.1 h (m - 1) m (by omega) hml (by omega)
          have hlj : xs[j] ≤ xs[m - 1] := by
            rcases Nat.lt_or_ge j (m - 1) with e | e
            · exact List.pairwise_iff_getElem.1 h j (m - 1) (by omega) (by omega) e
            · have : j = m - 1 := by omega
              subst this
              exact Int.le_refl _
          omega
        · rw [List.mem_append, List.mem_singleton, i2, htk]
      | false =>
        rw [if_neg (by simp), List.append_nil]
        refine ⟨i1, fun z => ?_⟩
        rw [i2, htk]
        refine ⟨Or.inl, fun hz => ?_⟩
        rcases hz with hz | rfl
        · exact hz
        · simp only [Lib.keeps, decide_eq_false_iff_not, not_or, Decidable.not_not] at hk
          have hg1 : xs.toArray[m - 1]! = xs[m - 1] := by simp [show m - 1 < xs.length by omega]
          rw [hg, hg1] at hk
          rw [hk.2]
          exact List.mem_take_iff_getElem.2 ⟨m - 1, by omega, rfl⟩
  have := key xs.length (Nat.le_refl _)
  rw [List.take_of_length_le (Nat.le_refl _)] at this
  exact this
theorem sorted_le (xs : List Int) : (xs.mergeSort fun x y => decide (x ≤ y)).Pairwise (· ≤ ·) := by
  have := List.pairwise_mergeSort (le := fun x y : Int => decide (x ≤ y)) (fun a b c h1 h2 => by simp at *; omega) (fun a b => by simp; omega) xs
  exact this.imp (fun h => by simpa using h)
def RetI (xs : List Int) (w : World) (e : Ending) (w' : World) : Prop := ∃ v, e = .returned v ∧ OwnI w' w v xs ∧ BelowC w w'
def RetIE (xs : List Int) (E : Int) (w : World) (e : Ending) (w' : World) : Prop := ∃ v, e = .returned (.tuple #[v, .int .i64 E]) ∧ OwnI w' w v xs ∧ BelowC w w'
def errI (b : Bool) : Int := bif b then 0 else 1
def Pause (p : Prop) : Prop := p
theorem pause {p : Prop} (h : Pause p) : p := h
theorem take_succ' {L : List Int} {k : Nat} (h : k < L.length) : L.take (k + 1) = L.take k ++ [L[k]] := by
  rw [List.take_add_one]
  simp [h]
theorem getI {L : List Int} {k : Nat} (h : k < L.length) : L[k]! = L[k] := getElem!_pos L k h
theorem ret_intq {k : IntKind} {a b : Int} (h : a = b) : Ending.returned (.int k a) = .returned (.int k b) := by rw [h]
theorem num' (n : Int) (w : World) : Calls Try.prog 13 #[.int .i64 n] w fun e w' => e = .returned (.int .i64 n) ∧ w = w' := by
  go_enter Try.func13, Try.ntmps13
  go_wp2
  go_returns
  exact ⟨rfl, rfl⟩
end Go.Proofs.Ytmokjaelgfikeaa.K
