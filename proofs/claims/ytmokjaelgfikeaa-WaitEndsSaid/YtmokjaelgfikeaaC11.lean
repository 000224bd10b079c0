/- Waits made here; wakes. -/
import Derived.Test.YtmokjaelgfikeaaProg
import Derived.Below
import Derived.WalkKit
import Derived.KernelRfl
import Derived.RowKit
import Derived.RowKit3
import Derived.Tactics
import Derived.Deep.QuietTactic
import Derived.BigQuiet
import Derived.OwnWalk
import Derived.Outline
import Derived.Handy
import Derived.StillTailTactics
import Derived.Deep.RegionHeld3
import Derived.Deep.DeepCutAuto
import Derived.Deep.CutBlock
import Derived.Shelf.Abstract
import Derived.Shelf.SlSortCmp.QuietGrown
import Derived.Lib.SliceRun
import Derived.Sort.OwnSortedInts
import Derived.Lib.SlicesCompact
import Derived.Lib.SmallJoins
import Derived.SliceStrings
import Derived.ArgAppend
import Derived.Deep.AppendSrc
import Derived.Deep.Upon
import Derived.Deep.Slices
import Derived.ChangeSame
import Derived.Maps.OwnSet
import Derived.Maps.Range
import Derived.Maps.OwnOps
import Derived.Lib.SlKeysI
import Derived.Maps.Views
import Derived.Maps.AppendAt
import Derived.Test.YtmokjaelgfikeaaC10
namespace Go.Proofs.Ytmokjaelgfikeaa.K
open Go.RowKit
set_option linter.unusedSimpArgs false
set_option linter.unusedVariables false
attribute [local go_sem] bc_alloc2 bc_alloc3 s_alloc_drewN s_setCell_drewN bc_alloc bc_drewN bc_drew

def wtCells (x : WaitV) : List Value := [.int .i64 x.o, .slice x.A x.n x.c]
theorem wflat_len (L : List WaitV) : (L.flatMap wtCells).length = L.length * 2 := by
  induction L with
  | nil => rfl
  | cons x T ih => simp [List.flatMap_cons, ih, wtCells]; omega
theorem wflat_get : ∀ (L : List WaitV) (i : Nat) (hi : i < L.length) (r : Nat) (hr : r < 2), (L.flatMap wtCells)[i * 2 + r]? = (wtCells L[i])[r]?
  | [], i, hi, _, _ => absurd hi (by simp)
  | x :: T, 0, _, r, hr => by
    rw [List.flatMap_cons, List.getElem?_append_left (by simp [wtCells]; omega)]
    simp
  | x :: T, i + 1, hi, r, hr => by
    rw [List.flatMap_cons, List.getElem?_append_right (by simp [wtCells]; omega)]
    have := wflat_get T i (by simpa using hi) r hr
    rw [show (i + 1) * 2 + r - (wtCells x).length = i * 2 + r by simp [wtCells]; omega, this]
    simp
/-- Waits in memory of the call's own; whom they wait for lies anywhere. -/
def OwnW (w b : World) (v : Value) (L : List WaitV) : Prop := w.ownsRow b.heap.size 41 2 v L.length (L.flatMap wtCells)
/-- Whom they wait for. -/
def NsW (w : World) (L : List WaitV) : Prop := ∀ x ∈ L, Ns w x.A x.n x.f
theorem NsW.below {w w' : World} {L : List WaitV} (h : NsW w L) (hb : BelowC w w') : NsW w' L := fun x hx => (h x hx).below hb
theorem ownW_nil (w b : World) : OwnW w b (.slice none 0 0) [] := World.ownsRow_nil _ _ _ _
theorem ownW_below {w w' b : World} {v : Value} {L : List WaitV} (h : OwnW w b v L) (hb : BelowC w w') : OwnW w' b v L :=
  World.ownsRow.kept h (row := none) ⟨hb.os, hb.tape, hb.output, hb.size, fun k hk _ => hb.block k hk⟩ (by cases v.ownBlock <;> simp)
theorem ownW_form {w b : World} {v : Value} {L : List WaitV} (h : OwnW w b v L) (hN : NsW w L) : ∃ A n c, v = .slice A n c ∧ n = L.length ∧ n ≤ c ∧ Wts w A n L := by
  have hml : maxLen = 9223372036854775807 := rfl
  have h' := h
  rcases h.2 with ⟨rfl, hn⟩ | ⟨g, cap, cur, rfl, hbg, hg, hnc, hcm, hcs, _⟩
  · exact ⟨none, 0, 0, rfl, hn.symm, Nat.le_refl _, hn.symm, by simp, fun h => absurd h (by simp)⟩
  · have hlt := (h'.lt g rfl).2
    refine ⟨_, _, cap, rfl, rfl, hnc, rfl, by omega, fun h0 => ⟨g, 0, rfl, hlt, fun i hi => ?_⟩⟩
    have hr : ∀ r, r < 2 → w.cell? ⟨g, 0 + i * 2 + r, none⟩ = (wtCells L[i])[r]? := fun r hr => by
      have := h'.cellAt (i * 2 + r) (by omega)
      rw [wflat_get L i hi r hr] at this
      rw [Nat.zero_add]
      exact this
    exact ⟨hr 0 (by decide), hr 1 (by decide), hN _ (List.getElem_mem hi)⟩
theorem inf41 : ∃ i : TypeInfo, Try.prog.info? 41 = some i ∧ i.bytes = 32 ∧ i.zero = some (.agg #[.int .i64 0, .slice none 0 0]) ∧ i.size = 2 := ⟨_, rfl, rfl, rfl, rfl⟩
theorem wts_news {w : World} {A : Addr} {m : Nat} {L : List WaitV} (h : Wts w (some A) m L) : ∀ j u, (L.flatMap wtCells)[j]? = some u → w.cell? (A.add j) = some u := by
  intro j u hj
  have hjl := (List.getElem?_eq_some_iff.1 hj).1
  rw [wflat_len] at hjl
  obtain ⟨b, o, e, hlt, hi⟩ := h.2.2 (by have := h.1; omega)
  cases e
  have hx := hi (j / 2) (by omega)
  rw [show j = j / 2 * 2 + j % 2 by omega, wflat_get L (j / 2) (by omega) (j % 2) (by omega)] at hj
  rw [Go.WideShapes.add_plain]
  rcases (show j % 2 = 0 ∨ j % 2 = 1 by omega) with e | e
  · rw [e] at hj
    cases hj
    rw [show o + j = o + j / 2 * 2 by omega]
    exact hx.c0
  · rw [e] at hj
    cases hj
    rw [show o + j = o + j / 2 * 2 + 1 by omega]
    exact hx.c1
theorem wts_one (L : List WaitV) : ∀ u ∈ L.flatMap wtCells, u.oneCell' = true := by
  intro u hu
  obtain ⟨x, _, hx⟩ := List.mem_flatMap.1 hu
  simp only [wtCells, List.mem_cons, List.mem_nil_iff, or_false] at hx
  rcases hx with rfl | rfl <;> rfl
/-- append of waits. -/
theorem app27 {ops : Array Oper} {rest : List Oper} {o : Oper} {a : Act} {w b : World} {Q : Exit → Act → World → Prop} (hgd : o.guard = none) (s x : Operand)
    (ho : o.op = .call { callee := .builtin .append, args := #[s, x], argTypes := #[27, 27] }) (v : Value) (L : List WaitV) (hs : a.eval s = v) (hown : OwnW w b v L)
    (A : Addr) (m c : Nat) (L2 : List WaitV) (hx : a.eval x = .slice (some A) m c) (hO : Wts w (some A) m L2) (hn : L.length + m ≤ 1000000) (hB : BelowC b w)
    (h : ∀ v' w', OwnW w' b v' (L ++ L2) → w.grownBy w' v.ownBlock → (v'.ownBlock = v.ownBlock ∨ v'.ownBlock = some w.heap.size) → BelowC b w' → wpList Try.prog ops Q rest (a.put o.dst v') w') : wpList Try.prog ops Q (o :: rest) a w := by
  obtain ⟨i, hi, hb, hz, hsz⟩ := inf41
  have hml : maxLen = 9223372036854775807 := rfl
  refine wpList_append_own_at w hgd s x 27 ho b.heap.size 41 i _ 2 32 Try.underlying27 hi hz hsz hb rfl (by decide) v L.length (L.flatMap wtCells) hs hown A m c (L2.flatMap wtCells) hx (by rw [wflat_len, hO.1]) (wts_news hO) (wts_one L2) (by omega) (by omega) (bc_size hB) fun v' w' h1 h2 h3 h4 => ?_
  refine h v' w' ?_ h2 h4 (bc_grown hB h2 fun k hk => (hown.lt k hk).1)
  unfold OwnW
  rw [List.flatMap_append, List.length_append, ← hO.1]
  exact h1
/-- Whom they wait for lies apart from the row itself. -/
def NsA (w : World) (v : Value) (L : List WaitV) : Prop := ∀ x ∈ L, Ns w x.A x.n x.f ∧ ∀ a, x.A = some a → ∃ g, a = ⟨g, 0, none⟩ ∧ g < w.heap.size ∧ some g ≠ v.ownBlock
theorem nsA_ns {w : World} {v : Value} {L : List WaitV} (h : NsA w v L) : NsW w L := fun x hx => (h x hx).1
theorem nsA_nil (w : World) (v : Value) : NsA w v [] := fun x hx => by cases hx
theorem nsA_below {w w' : World} {v : Value} {L : List WaitV} (h : NsA w v L) (hb : BelowC w w') : NsA w' v L := fun x hx =>
  ⟨(h x hx).1.below hb, fun a e => by
    obtain ⟨g, e1, h1, h2⟩ := (h x hx).2 a e
    exact ⟨g, e1, bc_lt hb h1, h2⟩⟩
theorem ns_far {w w' : World} {row : Option Nat} {A : Option Addr} {n : Nat} {l : List Int} (h : Ns w A n l) (hA : ∀ a, A = some a → ∃ g, a = ⟨g, 0, none⟩ ∧ g < w.heap.size ∧ some g ≠ row) (hg : w.grownBy w' row) : Ns w' A n l := by
  refine ⟨h.1, h.2.1, fun h0 => ?_⟩
  obtain ⟨b, o, rfl, hlt, hc⟩ := h.2.2 h0
  obtain ⟨g, e, h1, h2⟩ := hA _ rfl
  cases e
  exact ⟨b, 0, rfl, Nat.lt_of_lt_of_le hlt hg.size, fun i hi => (World.cell?_of_block (a := ⟨b, 0 + i, none⟩) (hg.block b hlt h2)).trans (hc i hi)⟩
theorem nsA_step {w w' : World} {v v' : Value} {L : List WaitV} (h : NsA w v L) (hg : w.grownBy w' v.ownBlock) (hat : v'.ownBlock = v.ownBlock ∨ v'.ownBlock = some w.heap.size) : NsA w' v' L := fun x hx => by
  obtain ⟨h1, h2⟩ := h x hx
  refine ⟨ns_far h1 h2 hg, fun a e => ?_⟩
  obtain ⟨g, e1, h3, h4⟩ := h2 a e
  refine ⟨g, e1, Nat.lt_of_lt_of_le h3 hg.size, ?_⟩
  rcases hat with e2 | e2
  · rw [e2]; exact h4
  · rw [e2]
    simp
    omega
theorem own_blk {w b : World} {v : Value} {L : List WaitV} (h : OwnW w b v L) {g : Nat} (hg : w.heap.size ≤ g) : some g ≠ v.ownBlock := by
  intro e
  have := (h.lt g e.symm).2
  omega
theorem nsA_app {w : World} {v : Value} {L M : List WaitV} (h : NsA w v L) (h' : NsA w v M) : NsA w v (L ++ M) := fun x hx => by
  rcases List.mem_append.1 hx with e | e
  · exact h x e
  · exact h' x e
/-- One that waits, laid in a new block. -/
theorem one_wt (w : World) (x : WaitV) (h : Ns w x.A x.n x.f) (g : Nat) (hg : g = w.heap.size) : Wts (w.alloc (.cells #[.int .i64 x.o, .slice x.A x.n x.c] 41)) (some ⟨g, 0, none⟩) 1 [x] := by
  subst hg
  exact ⟨rfl, by decide, fun _ => ⟨_, 0, rfl, by simp, fun i hi => by
    obtain rfl : i = 0 := by simpa using hi
    exact ⟨by simp, by simp, h.below (bc_alloc (bc_refl _) _)⟩⟩⟩
/-- append where nothing is protected but what is below B. -/
theorem Must (A : Option Addr) (n c : Nat) (w : World) : Calls Try.prog 25 #[.slice A n c, .int .i64 0] w (Ret (.slice A n c) w) := by
  have h0 := bc_refl w
  go_enter Try.func25, Try.ntmps25
  go_wp2_with (go_at_call 13; refine (num' _ _).mono ?_; rintro ee _ ⟨rfl, rfl⟩)
  go_returns
  exact ⟨rfl, h0⟩
def wA (g : Nat) : List WaitV := [⟨0, some ⟨g, 0, none⟩, 1, 1, [1]⟩, ⟨1, some ⟨g + 1, 0, none⟩, 1, 1, [0]⟩]
theorem wA0 (g : Nat) : whomL (wA g) 0 = [1] := rfl
theorem wA1 (g : Nat) : whomL (wA g) 1 = [0] := rfl
theorem wA_r (g : Nat) {o z : Int} (ho : o = 0 ∨ o = 1) (hz : z = 0 ∨ z = 1) : Reaches (wA g) o z := by
  have h01 : Reaches (wA g) 0 1 := reach_here (by rw [wA0]; simp)
  have h10 : Reaches (wA g) 1 0 := reach_here (by rw [wA1]; simp)
  have h00 : Reaches (wA g) 0 0 := reach_more h01 (by rw [wA1]; simp)
  have h11 : Reaches (wA g) 1 1 := reach_more h10 (by rw [wA0]; simp)
  rcases ho with rfl | rfl <;> rcases hz with rfl | rfl <;> assumption
theorem wA_m (g : Nat) {o : Int} (ho : o = 0 ∨ o = 1) {xs : List Int} (h : IsO (wA g) o xs) : xs = [0, 1] := by
  refine strict_unique h.1 (by simp [Strict]) fun z => ?_
  rw [h.2]
  constructor
  · rintro ⟨h1, _⟩
    obtain ⟨x, hx, hz⟩ := reach_in h1
    simp [wA] at hx
    rcases hx with rfl | rfl <;> simp at hz <;> simp [hz]
  · intro hz
    have hz' : z = 0 ∨ z = 1 := by simpa using hz
    exact ⟨wA_r g ho hz', wA_r g hz' ho⟩
theorem wA_vic (g : Nat) {m E : Int} (h : VicP (wA g) [5, 3] 1 m E) : m = 0 ∧ E = 0 := by
  obtain ⟨xs, hO, hm⟩ := h
  have e := wA_m g (.inr rfl) hO
  subst e
  rcases hm with ⟨e, _⟩ | ⟨h1, h2, h3⟩
  · cases e
  · have h4 := h2 0 (by simp)
    have h1' : m = 0 ∨ m = 1 := by simpa using h1
    rcases h1' with rfl | rfl
    · exact ⟨rfl, h3⟩
    · simp [ageAt] at h4
theorem wA_may (g : Nat) : MayW (wA g) := by
  refine ⟨fun x hx => ?_, by simp [wA], by simp [wA, Rises]⟩
  simp [wA] at hx
  rcases hx with rfl | rfl <;> simp [Rises]
theorem wA_wf (g : Nat) : WfW (wA g) := by
  intro x hx z hz
  simp [wA] at hx
  rcases hx with rfl | rfl <;> simp at hz <;> rw [hz] <;> decide
theorem wA_aged (g : Nat) : AgedW [5, 3] (wA g) := by
  intro x hx
  simp [wA] at hx
  rcases hx with rfl | rfl
  · exact (show agedB [5, 3] 0 = true ∧ ∀ z ∈ [(1 : Int)], agedB [5, 3] z = true from by decide)
  · exact (show agedB [5, 3] 1 = true ∧ ∀ z ∈ [(0 : Int)], agedB [5, 3] z = true from by decide)
abbrev wB (w : World) : World := ((w.alloc (.cells #[.int .i64 1] 3)).alloc (.cells #[.int .i64 0] 3)).alloc (.cells #[.int .i64 0, .slice (some ⟨w.heap.size, 0, none⟩) 1 1, .int .i64 1, .slice (some ⟨w.heap.size + 1, 0, none⟩) 1 1] 41)
theorem wA_wts (w : World) : Wts (wB w) (some ⟨w.heap.size + 2, 0, none⟩) 2 (wA w.heap.size) :=
  ⟨rfl, by decide, fun _ => ⟨_, 0, rfl, by simp, fun i hi => by
    have n0 : Ns (wB w) (some ⟨w.heap.size, 0, none⟩) 1 [1] := (one_ns w 1).below (bc_alloc2 (bc_refl _) _ _)
    have n1 : Ns (wB w) (some ⟨w.heap.size + 1, 0, none⟩) 1 [0] := (one_ns2 (w.alloc (.cells #[.int .i64 1] 3)) 0 (w.heap.size + 1) (by simp)).below (bc_alloc (bc_refl _) _)
    have a0 : (wB w).cell? ⟨w.heap.size + 2, 0, none⟩ = some (.int .i64 0) := by go_simp
    have a1 : (wB w).cell? ⟨w.heap.size + 2, 1, none⟩ = some (.slice (some ⟨w.heap.size, 0, none⟩) 1 1) := by go_simp
    have a2 : (wB w).cell? ⟨w.heap.size + 2, 2, none⟩ = some (.int .i64 1) := by go_simp
    have a3 : (wB w).cell? ⟨w.heap.size + 2, 3, none⟩ = some (.slice (some ⟨w.heap.size + 1, 0, none⟩) 1 1) := by go_simp
    match i, hi with
    | 0, _ => exact ⟨a0, a1, n0⟩
    | 1, _ => exact ⟨a2, a3, n1⟩⟩⟩
theorem wA_sum (g : Nat) : sumF (wA g) ≤ 1000000 := by simp [sumF, remW, wA]
theorem two_ns (w : World) (a b : Int) (g : Nat) (hg : g = w.heap.size) : Ns (w.alloc (.cells #[.int .i64 a, .int .i64 b] 3)) (some ⟨g, 0, none⟩) 2 [a, b] := by
  subst hg
  exact ⟨rfl, by decide, fun _ => ⟨_, 0, rfl, by simp, fun i hi => by
    match i, hi with
    | 0, _ => simp
    | 1, _ => simp⟩⟩
theorem bc3 (w : World) : BelowC w (wB w) := bc_alloc3 (bc_refl _) _ _ _
set_option maxRecDepth 100000 in
set_option maxHeartbeats 4000000 in
theorem wakes (w : World) : Calls Try.prog 16 #[] w (Ret (.bool true) w) := by
  have h0 := bc_refl w
  have HT := hid (wA_wts w)
  have HN := hid (two_ns (wB w) 5 3 (w.heap.size + 3) (by simp))
  have HB := hid (bc3 w)
  go_enter Try.func16, Try.ntmps16
  go_wp2_with (first | (go_at_call 12; refine (Victim (some ⟨w.heap.size + 2, 0, none⟩) (some ⟨w.heap.size + 3, 0, none⟩) 2 2 2 2 (wA w.heap.size) [5, 3] 1 ((wB w).alloc (.cells #[.int .i64 5, .int .i64 3] 3)) (HT.out.below (bc_alloc (bc_refl _) _)) HN.out (wA_may _) (wA_wf _) (wA_sum _) ⟨by decide, by decide⟩ (by decide) (by decide) (wA_aged _)).mono ?_; rintro e v1 ⟨m, E, rfl, hv, hb⟩; obtain ⟨rfl, rfl⟩ := wA_vic _ hv; have HX := hid (bc_trans (bc_alloc (bc_refl _) _) hb : BelowC (wB w) v1); clear hb hv) | (go_at_call 13; refine (num' _ _).mono ?_; rintro ee _ ⟨rfl, rfl⟩) | (go_at_call 11; refine (Circle (some ⟨w.heap.size + 2, 0, none⟩) 2 2 (wA w.heap.size) 0 _ (HT.out.below HX.out) (wA_may _) (wA_wf _) (wA_sum _)).mono ?_; rintro e v2 ⟨A2, n2, c2, xs, rfl, -, hn2, hO, hb⟩; obtain rfl := wA_m _ (.inl rfl) hO; obtain rfl : n2 = 2 := hn2; have HX2 := hid (bc_trans HX.out hb); clear hb hO) | (go_at_call 25; refine (Must A2 2 c2 _).mono ?_; rintro e v3 ⟨rfl, hb⟩; have HX3 := hid (bc_step HX2.out hb); clear hb))
  go_returns
  exact ⟨rfl, bc_trans HB.out HX3.out⟩
theorem u64_ge (x : Int) : 0 ≤ IntKind.u64.wrap x := by
  have e : IntKind.u64.wrap x = x % 18446744073709551616 := by simp [IntKind.wrap, IntKind.bits, IntKind.signed]
  rw [e]
  exact Int.emod_nonneg _ (by decide)
theorem within_of {u : Int} (h : 0 ≤ u) {k : Nat} (hk : 0 < k) (hk2 : k ≤ 1000) : ∃ r : Nat, r < k ∧ wrap64 (u.tmod (k : Int)) = r := by
  have h1 := Int.emod_nonneg u (show (k : Int) ≠ 0 by omega)
  have h2 := Int.emod_lt_of_pos u (show (0 : Int) < k by omega)
  rw [Int.tmod_eq_emod_of_nonneg h]
  refine ⟨(u % (k : Int)).toNat, by omega, ?_⟩
  unfold wrap64
  omega
theorem Within5 (x : Int) (w : World) : Calls Try.prog 17 #[.int .i64 x, .int .i64 5] w fun e w' => ∃ r : Nat, r < 5 ∧ e = .returned (.int .i64 r) ∧ BelowC w w' := by
  have h0 := bc_refl w
  obtain ⟨r, hr, e⟩ := within_of (u64_ge x) (k := 5) (by decide) (by decide)
  have HE := hid e
  clear e
  go_enter Try.func17, Try.ntmps17
  go_wp2_with fail
  go_returns
  exact ⟨r, hr, congrArg (fun z => Ending.returned (Value.int .i64 z)) HE.out, h0⟩
theorem Within7 (x : Int) (w : World) : Calls Try.prog 17 #[.int .i64 x, .int .i64 7] w fun e w' => ∃ r : Nat, r < 7 ∧ e = .returned (.int .i64 r) ∧ BelowC w w' := by
  have h0 := bc_refl w
  obtain ⟨r, hr, e⟩ := within_of (u64_ge x) (k := 7) (by decide) (by decide)
  have HE := hid e
  clear e
  go_enter Try.func17, Try.ntmps17
  go_wp2_with fail
  go_returns
  exact ⟨r, hr, congrArg (fun z => Ending.returned (Value.int .i64 z)) HE.out, h0⟩
end Go.Proofs.Ytmokjaelgfikeaa.K
