/- Clone; a queue of numbers. -/
import Derived.Test.YtmokjaelgfikeaaProg
import Derived.Below
import Derived.WalkKit
import Derived.KernelRfl
import Derived.RowKit
import Derived.RowKit3
import Derived.Tactics
import Derived.Deep.QuietTactic
import Derived.BigQuiet
import Derived.OwnWalk
import Derived.Outline
import Derived.Handy
import Derived.StillTailTactics
import Derived.Deep.RegionHeld3
import Derived.Deep.DeepCutAuto
import Derived.Deep.CutBlock
import Derived.Shelf.Abstract
import Derived.Shelf.SlSortCmp.QuietGrown
import Derived.Lib.SliceRun
import Derived.Sort.OwnSortedInts
import Derived.Lib.SlicesCompact
import Derived.Lib.SmallJoins
import Derived.SliceStrings
import Derived.ArgAppend
import Derived.Deep.AppendSrc
import Derived.Deep.Upon
import Derived.Deep.Slices
import Derived.ChangeSame
import Derived.Maps.OwnSet
import Derived.Maps.Range
import Derived.Maps.OwnOps
import Derived.Lib.SlKeysI
import Derived.Maps.Views
import Derived.Test.YtmokjaelgfikeaaC5
namespace Go.Proofs.Ytmokjaelgfikeaa.K
open Go.RowKit
set_option linter.unusedSimpArgs false
set_option linter.unusedVariables false
attribute [local go_sem] bc_alloc2 bc_alloc3 s_alloc_drewN s_setCell_drewN bc_alloc bc_drewN bc_drew

theorem ns_news {w : World} {A : Addr} {m : Nat} {L : List Int} (h : Ns w (some A) m L) : ∀ j u, (L.map (Value.int .i64))[j]? = some u → w.cell? (A.add j) = some u := by
  intro j u hj
  have hjl := (List.getElem?_eq_some_iff.1 hj).1
  rw [List.length_map] at hjl
  obtain ⟨b, o, e, hlt, hi⟩ := h.2.2 (by have := h.1; omega)
  cases e
  rw [List.getElem?_map, List.getElem?_eq_getElem hjl] at hj
  cases hj
  rw [Go.WideShapes.add_plain]
  exact hi j hjl
theorem ints_one (L : List Int) : ∀ u ∈ L.map (Value.int .i64), u.oneCell' = true := by
  intro u hu
  obtain ⟨x, _, rfl⟩ := List.mem_map.1 hu
  rfl
/-- append of numbers to a slice of the call's own. -/
theorem app23s {ops : Array Oper} {rest : List Oper} {o : Oper} {a : Act} {w b : World} {Q : Exit → Act → World → Prop} (hgd : o.guard = none) (s x : Operand)
    (ho : o.op = .call { callee := .builtin .append, args := #[s, x], argTypes := #[23, 23] }) (v : Value) (xs : List Int) (hs : a.eval s = v) (hown : OwnI w b v xs)
    (A : Addr) (m c : Nat) (ys : List Int) (hx : a.eval x = .slice (some A) m c) (hO : Ns w (some A) m ys) (hn : xs.length + m ≤ 17592186044416) (hB : BelowC b w)
    (h : ∀ v' w', OwnI w' b v' (xs ++ ys) → BelowC b w' → wpList Try.prog ops Q rest (a.put o.dst v') w') : wpList Try.prog ops Q (o :: rest) a w := by
  obtain ⟨i, hi, hb, hzz, hsz⟩ := inf3
  have hml : maxLen = 9223372036854775807 := rfl
  refine wpList_append_own w hgd s x 23 ho b.heap.size 3 i _ 1 8 Try.underlying23 hi hzz hsz hb rfl (by decide) v xs.length (xs.map (Value.int .i64)) hs hown A m c (ys.map (Value.int .i64)) hx (by rw [List.length_map, hO.1]; omega) (ns_news hO) (ints_one ys) (by omega) (by omega) (bc_size hB) fun v' w' h1 h2 h3 => ?_
  refine h v' w' ?_ (bc_grown hB h2 fun k hk => (hown.lt k hk).1)
  unfold OwnI
  rw [List.map_append, List.length_append, ← hO.1]
  exact h1
set_option maxRecDepth 100000 in
set_option maxHeartbeats 4000000 in
theorem Clone (A : Option Addr) (n c : Nat) (L : List Int) (w : World) (h : Ns w A n L) (hbig : n ≤ 17592186044415) : Calls Try.prog 36 #[.slice A n c] w (RetI L w) := by
  have hn := h.2.1
  have HL := hid h.1
  have h0 := bc_refl w
  have H := hid h
  clear h
  have q23 := fun (w : World) (a : Option Addr) (n c n' c' : Nat) => Lib.run_eql_slice_nil (P := Try.prog) w _ _ a n c n' c' Try.underlying23
  cases A with
  | none =>
    have hn0 : n = 0 := by
      apply Classical.byContradiction
      intro hne
      obtain ⟨b, o, e, _⟩ := H.out.2.2 (by omega)
      cases e
    have e : L = [] := List.eq_nil_of_length_eq_zero (by have := HL.out; omega)
    have E := hid e
    clear e hn0
    go_enter Try.func36, Try.ntmps36
    go_wp2_with fail
    go_returns
    exact ⟨_, rfl, by rw [E.out]; exact ownI_nil _ _, h0⟩
  | some a =>
    go_enter Try.func36, Try.ntmps36
    go_wp2_with (at_builtin; refine app23s (b := w) rfl (.tmp 5) (.tmp 6) rfl (.slice (some ⟨w.heap.size, 0, none⟩) 0 0) [] rfl (World.ownsRow_made w #[] 0 (Nat.le_refl _) (by decide) rfl) a n c L rfl (H.out.below (bc_alloc h0 _)) (by simp; omega) (bc_alloc h0 _) ?_; intro v' w1 hown1 HB1; have HOWN := hid hown1; clear hown1)
    go_returns
    exact ⟨_, rfl, HOWN.out, HB1⟩
/-- A row of the call's own, wherever it begins: what is still to be done. -/
structure Todo (w b0 : World) (A : Option Addr) (n c : Nat) (xs : List Int) : Prop where
  len : n = xs.length
  le : n ≤ c
  max : c ≤ 9223372036854775807
  row : 0 < c → ∃ g off, A = some ⟨g, off, none⟩ ∧ b0.heap.size ≤ g ∧ g < w.heap.size ∧ (∀ j (hj : j < xs.length), w.cell? ⟨g, off + j, none⟩ = some (.int .i64 xs[j])) ∧ (∀ j, j < c → (w.cell? ⟨g, off + j, none⟩).isSome = true) ∧ ∀ o, w.frozen? ⟨g, o, none⟩ = false
theorem cell_of {w : World} {g j : Nat} {cur : Array Value} {t : TypeId} (h : w.heap[g]? = some (.cells cur t (0, 0))) : w.cell? ⟨g, j, none⟩ = cur[j]? := by
  simp [World.cell?, h]
theorem todo_own {w b : World} {v : Value} {xs : List Int} (h : OwnI w b v xs) : ∃ A n c, v = .slice A n c ∧ Todo w b A n c xs := by
  have hml : maxLen = 9223372036854775807 := rfl
  have h' := h
  rcases h.2 with ⟨rfl, hn⟩ | ⟨g, cap, cur, rfl, hbg, hg, hnc, hcm, hcs, ht⟩
  · exact ⟨none, 0, 0, rfl, hn.symm, Nat.le_refl _, by omega, fun h => absurd h (by omega)⟩
  · have hlt := (h'.lt g rfl).2
    refine ⟨_, _, cap, rfl, rfl, hnc, by omega, fun h0 => ⟨g, 0, rfl, hbg, hlt, fun j hj => ?_, fun j hj => ?_, fun o => h'.frozenAt o⟩⟩
    · rw [Nat.zero_add]
      exact ownI_at h' rfl hj
    · rw [Nat.zero_add, cell_of hg, Array.getElem?_eq_getElem (by omega)]
      rfl
theorem todo_below {w w' b : World} {A : Option Addr} {n c : Nat} {xs : List Int} (h : Todo w b A n c xs) (hb : BelowC w w') : Todo w' b A n c xs := by
  refine ⟨h.len, h.le, h.max, fun h0 => ?_⟩
  obtain ⟨g, off, e, h1, h2, h3, h4, h5⟩ := h.row h0
  refine ⟨g, off, e, h1, bc_lt hb h2, fun j hj => bc_cell (h3 j hj) h2 w' hb, fun j hj => ?_, fun o => bc_frozen h5 h2 w' hb o⟩
  have e := Below.cell hb (p := ⟨g, off + j, none⟩) h2
  rw [e]
  exact h4 j hj
theorem todo_kept {w w' b : World} {A : Option Addr} {n c B : Nat} {xs : List Int} (h : Todo w b A n c xs) (hg : w.grownBy w' (some B)) (hB : B < b.heap.size) : Todo w' b A n c xs := by
  refine ⟨h.len, h.le, h.max, fun h0 => ?_⟩
  obtain ⟨g, off, e, h1, h2, h3, h4, h5⟩ := h.row h0
  have hbk := hg.block g h2 (by simp; omega)
  refine ⟨g, off, e, h1, Nat.lt_of_lt_of_le h2 hg.size, fun j hj => ?_, fun j hj => ?_, fun o => ?_⟩
  · rw [World.cell?_of_block (a := ⟨g, off + j, none⟩) hbk]; exact h3 j hj
  · rw [World.cell?_of_block (a := ⟨g, off + j, none⟩) hbk]; exact h4 j hj
  · rw [World.frozen?_of_block (a := ⟨g, o, none⟩) hbk]; exact h5 o
theorem todo_ns {w b : World} {A : Option Addr} {n c : Nat} {xs : List Int} (h : Todo w b A n c xs) : Ns w A n xs := by
  refine ⟨h.len, Nat.le_trans h.le h.max, fun h0 => ?_⟩
  obtain ⟨g, off, e, h1, h2, h3, h4, h5⟩ := h.row (by have := h.le; omega)
  exact ⟨g, off, e, h2, h3⟩
/-- todo[1:]. -/
theorem todo_tail {w b : World} {g off n c : Nat} {x : Int} {xs : List Int} (h : Todo w b (some ⟨g, off, none⟩) n c (x :: xs)) (A : Option Addr) (hA : 1 < c → A = some ⟨g, off + 1, none⟩) : Todo w b A (n - 1) (c - 1) xs := by
  have hl := h.len
  have hle := h.le
  have hm := h.max
  simp only [List.length_cons] at hl
  refine ⟨by omega, by omega, by omega, fun h0 => ?_⟩
  obtain ⟨g', off', e, h1, h2, h3, h4, h5⟩ := h.row (by omega)
  cases e
  refine ⟨g, off + 1, hA (by omega), h1, h2, fun j hj => ?_, fun j hj => ?_, h5⟩
  · have := h3 (j + 1) (by simp only [List.length_cons]; omega)
    rw [show off + 1 + j = off + (j + 1) by omega]
    simpa using this
  · rw [show off + 1 + j = off + (j + 1) by omega]
    exact h4 (j + 1) (by omega)
theorem below_setCells {B g : Nat} (hg : B ≤ g) : ∀ (vs : List Value) (o : Nat) (w0 w : World), Below B w0 w → Below B w0 (w.setCells g o vs)
  | [], _, _, _, h => h
  | v :: r, o, w0, w, h => below_setCells hg r (o + 1) w0 _ (h.setCell hg _)
theorem below_of {w w' : World} {B : Nat} {row : Option Nat} (hB : B ≤ w.heap.size) (hg : w.grownBy w' row) (hrow : ∀ k, row = some k → B ≤ k) : Below B w w' :=
  ⟨hg.os, hg.tape, hg.output, hg.size, fun k hk => hg.block k (Nat.lt_of_lt_of_le hk hB) (fun e => by have := hrow k e.symm; omega)⟩
theorem set_in (g : Nat) (vs : List Value) (o : Nat) (w : World) (h : ∀ j, j < vs.length → (w.cell? ⟨g, o + j, none⟩).isSome = true) (j : Nat) (hj : j < vs.length) : (w.setCells g o vs).cell? ⟨g, o + j, none⟩ = some vs[j] :=
  World.cell?_setCells_in g vs o w h j hj
theorem frozen_setCells (g : Nat) : ∀ {vs : List Value} {o : Nat} {w : World}, (∀ q, w.frozen? ⟨g, q, none⟩ = false) → ∀ q, (w.setCells g o vs).frozen? ⟨g, q, none⟩ = false
  | [], _, _, h, q => h q
  | v :: r, o, w, h, q => frozen_setCells g (vs := r) (o := o + 1) (w := w.setCell ⟨g, o, none⟩ v) (fun q => by simpa using h q) q
/-- append of numbers to what is still to be done. -/
theorem appT {ops : Array Oper} {rest : List Oper} {o : Oper} {a : Act} {w b0 : World} {Q : Exit → Act → World → Prop} (hgd : o.guard = none) (s x : Operand)
    (ho : o.op = .call { callee := .builtin .append, args := #[s, x], argTypes := #[23, 23] }) (A : Option Addr) (n c : Nat) (xs : List Int) (hs : a.eval s = .slice A n c) (hT : Todo w b0 A n c xs)
    (B : Option Addr) (m cc : Nat) (ys : List Int) (hx : a.eval x = .slice B m cc) (hO : Ns w B m ys) (hn : n + m ≤ 17592186044416) (hB : b0.heap.size ≤ w.heap.size)
    (h : ∀ A' n' c' w', Todo w' b0 A' n' c' (xs ++ ys) → Below b0.heap.size w w' → wpList Try.prog ops Q rest (a.put o.dst (.slice A' n' c')) w') : wpList Try.prog ops Q (o :: rest) a w := by
  obtain ⟨i, hi, hb, hzz, hsz⟩ := inf3
  have hml : maxLen = 9223372036854775807 := rfl
  have key : ∃ A' n' c' w', (Builtin.append_ #[23, 23] o.type #[.slice A n c, .slice B m cc]).run Try.prog w = .ok (.slice A' n' c') w' ∧ Todo w' b0 A' n' c' (xs ++ ys) ∧ Below b0.heap.size w w' := by
    by_cases hm : m = 0
    · subst hm
      have e : ys = [] := List.eq_nil_of_length_eq_zero hO.1.symm
      subst e
      have hsrc : Src Try.prog i.size 23 (.slice B 0 cc) 0 [] w := by
        cases B with
        | none => exact Src.ofNil w Try.underlying23 cc
        | some ad => exact Src.ofSlice w Try.underlying23 ad 0 cc [] (by simp) (by simp) (by simp)
      exact ⟨A, n, c, w, run_append_nothing w 23 23 o.type 3 i Try.underlying23 hi A n c hT.le _ hsrc, by rw [List.append_nil]; exact hT, Below.refl _ _⟩
    · obtain ⟨ad, rfl⟩ : ∃ ad, B = some ad := by
        obtain ⟨b, o, e, _⟩ := hO.2.2 (by omega)
        exact ⟨_, e⟩
      have hle := hT.le
      have hmax := hT.max
      by_cases hroom : n + m ≤ c
      · obtain ⟨g, off, rfl, h1, h2, h3, h4, h5⟩ := hT.row (by omega)
        have hyl : (ys.map (Value.int .i64)).length = m := by rw [List.length_map, hO.1]
        have hsrc : Src Try.prog i.size 23 (.slice (some ad) m cc) m (ys.map (Value.int .i64)) w := Src.ofSlice w Try.underlying23 ad m cc _ (by rw [hyl, hsz]; omega) (ns_news hO) (ints_one ys)
        have hthere : ∀ j, j < m → (w.cell? ⟨g, off + n + j, none⟩).isSome = true := fun j hj => by
          rw [show off + n + j = off + (n + j) by omega]
          exact h4 (n + j) (by omega)
        have hrun := run_append_room_src (P := Try.prog) w 23 23 o.type 3 i Try.underlying23 hi g off n c (.slice (some ad) m cc) m _ hsrc hroom (fun j hj => by rw [hsz, Nat.mul_one]; exact hthere j (by rw [hyl] at hj; exact hj)) (fun j _ => h5 _)
        rw [hsz, Nat.mul_one] at hrun
        refine ⟨_, _, _, _, hrun, ⟨by rw [List.length_append, ← hT.len, ← hO.1], hroom, hmax, fun _ => ⟨g, off, rfl, h1, ?_, ?_, ?_, ?_⟩⟩, below_setCells h1 _ _ _ _ (Below.refl _ _)⟩
        · exact Nat.lt_of_lt_of_le h2 (below_setCells h1 _ _ _ _ (Below.refl b0.heap.size w)).size
        · intro j hj
          rw [List.length_append, ← hT.len, ← hO.1] at hj
          by_cases hjn : j < n
          · rw [World.cell?_setCells_out g _ _ _ _ (fun _ _ => .inl (by simp; omega)), List.getElem_append_left (by have := hT.len; omega)]
            exact h3 j (by have := hT.len; omega)
          · have := set_in g (ys.map (Value.int .i64)) (off + n) w (fun q hq => hthere q (by rw [hyl] at hq; exact hq)) (j - n) (by rw [hyl]; omega)
            rw [show off + n + (j - n) = off + j by omega] at this
            rw [this, List.getElem_append_right (by have := hT.len; omega), List.getElem_map]
            simp only [← hT.len]
        · intro j hj
          by_cases hin : n ≤ j ∧ j < n + m
          · have := set_in g (ys.map (Value.int .i64)) (off + n) w (fun q hq => hthere q (by rw [hyl] at hq; exact hq)) (j - n) (by rw [hyl]; omega)
            rw [show off + n + (j - n) = off + j by omega] at this
            rw [this]
            rfl
          · rw [World.cell?_setCells_out g _ _ _ _ (fun _ _ => by rw [hyl]; simp; omega)]
            exact h4 j hj
        · exact frozen_setCells g h5
      · have grow : ∃ v' w', (Builtin.append_ #[23, 23] o.type #[.slice A n c, .slice (some ad) m cc]).run Try.prog w = .ok v' w' ∧ w'.ownsRow w.heap.size 3 1 v' (n + m) (xs.map (Value.int .i64) ++ ys.map (Value.int .i64)) ∧ w.grownBy w' none := by
          cases A with
          | none =>
            have hc0 : c = 0 := by
              apply Classical.byContradiction
              intro hne
              obtain ⟨g, off, e, _⟩ := hT.row (by omega)
              cases e
            have hn0 : n = 0 := by omega
            have e : xs = [] := List.eq_nil_of_length_eq_zero (by have := hT.len; omega)
            subst hc0 hn0 e
            obtain ⟨v', w', h1, h2, h3, _⟩ := run_append_own (P := Try.prog) w w.heap.size 23 o.type 3 i _ 1 8 Try.underlying23 hi hzz hsz hb rfl (by decide) (.slice none 0 0) 0 [] (World.ownsRow_nil _ _ _ _) ad m cc (ys.map (Value.int .i64)) (by rw [List.length_map, hO.1]; omega) (ns_news hO) (ints_one ys) (by omega) (by omega) (Nat.le_refl _)
            exact ⟨v', w', h1, h2, h3⟩
          | some a0 =>
            exact run_append_arg_grows (P := Try.prog) w 23 o.type 3 i _ 1 8 Try.underlying23 hi hzz hsz hb rfl (by decide) a0 n c (xs.map (Value.int .i64)) (by rw [List.length_map, ← hT.len]; omega) (fun j u hj => by
              have := todo_ns hT
              exact ns_news this j u hj) ad m cc (ys.map (Value.int .i64)) (by rw [List.length_map, hO.1]; omega) (ns_news hO) (by omega) (by omega) (by omega)
        obtain ⟨v', w', hrun, hown, hgr⟩ := grow
        rw [← List.map_append] at hown
        have hown' : OwnI w' w v' (xs ++ ys) := by
          unfold OwnI
          rw [List.length_append, ← hT.len, ← hO.1]
          exact hown
        obtain ⟨A', n', c', rfl, hT'⟩ := todo_own hown'
        refine ⟨A', n', c', w', hrun, ⟨hT'.len, hT'.le, hT'.max, fun h0 => ?_⟩, below_of hB hgr (fun k hk => by cases hk)⟩
        obtain ⟨g, off, e, h1, h2, h3⟩ := hT'.row h0
        exact ⟨g, off, e, by omega, h2, h3⟩
  obtain ⟨A', n', c', w', hrun, h1, h2⟩ := key
  refine wpList_plain hgd fun K hK' => ?_
  unfold Oper.wp
  simp [execOp, ho, resolve, invoke, builtin, hs, hx, hrun, Result.andThen]
  exact hK' _ _ (h A' n' c' w' h1 h2)
theorem SetM.low {w w' : World} {b n N : Nat} {S : List Int} (h : SetM w b n S) (hb : Below N w w') (hlt : b < N) : SetM w' b n S := by
  obtain ⟨es, clock, h1, h2⟩ := h
  exact ⟨es, clock, (hb.block b hlt).trans h1, h2⟩
end Go.Proofs.Ytmokjaelgfikeaa.K
