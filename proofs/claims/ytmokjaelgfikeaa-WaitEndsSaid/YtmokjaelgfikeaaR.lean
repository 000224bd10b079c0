/- A call's argument of the laws of layer 4, opened. -/
import Derived.Test.YtmokjaelgfikeaaC10
import Derived.Lib.SmallJoins
import Derived.SliceStrings
import Derived.Deep.Slices
import Derived.Deep.Fields
import Derived.ChangeSame
import Derived.ProofKit
import Derived.OpenShut
namespace Go.Proofs.Ytmokjaelgfikeaa.K
open Go.ChangeShapes Go.WideShapes Go.Deep Go.RowKit Go.Joins
set_option linter.unusedVariables false
set_option linter.unusedSimpArgs false
theorem plain_addr {w : World} {a : Addr} {v : Value} (h : w.cell? (a.add 0) = some v) : ∃ b o, a = ⟨b, o, none⟩ := by
  obtain ⟨b, off, spot⟩ := a
  have hspot : spot = none := World.cell?_spot h
  subst hspot
  exact ⟨b, off, rfl⟩
theorem cell_lt {w : World} {b o : Nat} {v : Value} (h : w.cell? ⟨b, o, none⟩ = some v) : b < w.heap.size := by
  apply Classical.byContradiction
  intro hn
  have : w.heap[b]? = none := Array.getElem?_eq_none (by omega)
  simp [World.cell?, this] at h
section
variable {H : Type} {enc : TypeId × Value → H} {W : World} {base : Nat} {spare : Nat → Bool} {held : Bool}
/-- A struct's field. -/
theorem fld {t : TypeId} {fs : Array Field} (ht : Try.prog.underlying t = some (.struct fs)) {n : Nat} {cs : List Value} {y : DataW H × List MemPlace} (h : DataW.trod enc Try.prog W base spare held n t cs = some y) (i : Nat) (f : Field) (hf : fs[i]? = some f) :
    ∃ n' y', DataW.trod enc Try.prog W base spare held n' f.type ((cs.drop f.offset).take (Try.prog.cellsOf f.type)) = some y' := by
  obtain ⟨xs, n', _, _, _, hl, hg⟩ := DataW.trod_struct ht h
  have hi : i < fs.size := (Array.getElem?_eq_some_iff.1 hf).1
  exact ⟨n', _, (hg i f hf).trans (List.getElem?_eq_getElem (by omega))⟩
theorem len_of {t : TypeId} {fs : Array Field} (ht : Try.prog.underlying t = some (.struct fs)) {n : Nat} {cs : List Value} {y : DataW H × List MemPlace} (h : DataW.trod enc Try.prog W base spare held n t cs = some y) : cs.length = Try.prog.cellsOf t := by
  obtain ⟨xs, n', _, _, hc, _, _⟩ := DataW.trod_struct ht h
  exact hc
/-- A slice whose elements each are read as Elem says. -/
theorem slice_of {α : Type} [Inhabited α] {t e : TypeId} {sz : Nat} (ht : Try.prog.underlying t = some (.slice e)) (hc : Try.prog.cellsOf e = sz) (h0 : 0 < sz) (Elem : Nat → Nat → α → Prop)
    (hel : ∀ n cs y, DataW.trod enc Try.prog W base spare held n e cs = some y → cs.length = sz → ∃ x : α, ∀ b o, (∀ j, j < sz → W.cell? ⟨b, o + j, none⟩ = cs[j]?) → Elem b o x)
    {m : Nat} {v : Value} {y : DataW H × List MemPlace} (h : DataW.trod enc Try.prog W base spare held m t [v] = some y) :
    ∃ (A : Option Addr) (n c : Nat) (f : Nat → α), v = .slice A n c ∧ n ≤ c ∧ n ≤ 9223372036854775807 ∧ (0 < n → ∃ b o, A = some ⟨b, o, none⟩ ∧ b < W.heap.size ∧ ∀ i, i < n → Elem b (o + i * sz) (f i)) := by
  rcases open_slice ht h with ⟨hcs, _⟩ | ⟨a, len, cap, q, n, D, Pl, hcs, _, hl, hm, hq, _, hi⟩
  · simp at hcs
    exact ⟨none, 0, 0, fun _ => default, hcs, by simp, by simp, fun h => absurd h (by simp)⟩
  · simp at hcs
    have hml : maxLen = 9223372036854775807 := rfl
    have hll : len ≤ q := by rw [hq]; split <;> omega
    rw [hc] at hi
    by_cases hlen : 0 < len
    · obtain ⟨cs0, hcs0, _⟩ := hi 0 (by omega)
      obtain ⟨_, hl0, hat0⟩ := World.cells?_some hcs0
      have hz := hat0 0 h0
      rw [show 0 * sz = 0 by omega] at hz
      have hb : ∃ b o, a = ⟨b, o, none⟩ ∧ b < W.heap.size := by
        obtain ⟨b, o, sp⟩ := a
        have hv : cs0[0]? = some (cs0[0]'(by omega)) := List.getElem?_eq_getElem (by omega)
        rw [hv] at hz
        have hs : sp = none := World.cell?_spot hz
        subst hs
        exact ⟨b, o, rfl, cell_lt hz⟩
      obtain ⟨b, o, rfl, hlt⟩ := hb
      have each : ∀ i, i < len → ∃ x : α, Elem b (o + i * sz) x := by
        intro i hil
        obtain ⟨cs, hcs, htr⟩ := hi i (by omega)
        obtain ⟨_, hlc, hat⟩ := World.cells?_some hcs
        obtain ⟨x, hx⟩ := hel n cs _ htr hlc
        refine ⟨x, hx b (o + i * sz) fun j hj => ?_⟩
        have := hat j hj
        rw [Go.Deep.add_add, Go.WideShapes.add_plain, ← Nat.add_assoc] at this
        exact this
      obtain ⟨f, hf⟩ := choose_lt each
      exact ⟨_, len, cap, f, hcs, hl, by omega, fun _ => ⟨b, o, rfl, hlt, hf⟩⟩
    · exact ⟨_, len, cap, fun _ => default, hcs, hl, by omega, fun h => absurd h hlen⟩

theorem e3 : Try.prog.cellsOf 3 = 1 := by kernel_rfl
theorem e22 : Try.prog.cellsOf 22 = 1 := by kernel_rfl
theorem e23 : Try.prog.cellsOf 23 = 1 := by kernel_rfl
theorem e27 : Try.prog.cellsOf 27 = 1 := by kernel_rfl
theorem len_only {t e : TypeId} {m : Nat} {v : Value} {y : DataW H × List MemPlace} (ht : Try.prog.underlying t = some (.slice e)) (h : DataW.trod enc Try.prog W base spare held m t [v] = some y) : ∃ A n c, v = .slice A n c ∧ n ≤ 9223372036854775807 := by
  have hml : maxLen = 9223372036854775807 := rfl
  rcases open_slice ht h with ⟨hcs, _⟩ | ⟨a, len, cap, q, n, D, Pl, hcs, _, hl, hm, hq, _, hi⟩
  · simp at hcs
    exact ⟨none, 0, 0, hcs, by simp⟩
  · simp at hcs
    exact ⟨_, len, cap, hcs, by omega⟩
theorem ask_len {b0 : Nat} {v : Value} {d : DataW H} {p : List MemPlace} (hv : Value.okWide Try.prog W .any b0 25 v) (h : DataW.Trod enc Try.prog W base spare held 25 v d p) :
    ∃ AL nL cL AA nA cA AN nN cN, v = .agg #[.slice AL nL cL, .slice AA nA cA, .slice AN nN cN] := by
  obtain ⟨cs, rfl, hsz⟩ := okWide_struct Try.underlying25 hv
  obtain ⟨l⟩ := cs
  have e25 : Try.prog.cellsOf 25 = 3 := by kernel_rfl
  match l, hsz.trans e25 with
  | [c0, c1, c2], _ =>
    obtain ⟨fuel, hf⟩ := h
    simp only [Value.cells] at hf
    obtain ⟨_, _, h0⟩ := fld Try.underlying25 hf 0 _ rfl
    obtain ⟨_, _, h1⟩ := fld Try.underlying25 hf 1 _ rfl
    obtain ⟨_, _, h2⟩ := fld Try.underlying25 hf 2 _ rfl
    simp [e22, e23] at h0 h1 h2
    obtain ⟨AL, nL, cL, rfl, _⟩ := len_only Try.underlying22 h0
    obtain ⟨AA, nA, cA, rfl, _⟩ := len_only Try.underlying23 h1
    obtain ⟨AN, nN, cN, rfl, _⟩ := len_only Try.underlying23 h2
    exact ⟨AL, nL, cL, AA, nA, cA, AN, nN, cN, rfl⟩
/-- A slice of numbers, as it came in. -/
theorem ints_of {m : Nat} {v : Value} {y : DataW H × List MemPlace} (h : DataW.trod enc Try.prog W base spare held m 23 [v] = some y) : ∃ A n c l, v = .slice A n c ∧ n ≤ c ∧ Ns W A n l ∧ ∀ z ∈ l, wfI z = true := by
  obtain ⟨A, n, c, f, hv, hl, hn, hx⟩ := slice_of (α := Int) (sz := 1) Try.underlying23 (by kernel_rfl) (by decide) (fun b o x => W.cell? ⟨b, o, none⟩ = some (.int .i64 x) ∧ wfI x = true) (by
    intro n cs y ht hlen
    match cs, hlen with
    | [c0], _ =>
      obtain ⟨s0, q0, _, hw⟩ := DataW.trod_int Try.underlying3 ht
      simp at q0
      subst q0
      exact ⟨s0, fun b o hj => ⟨hj 0 (by decide), hw⟩⟩) h
  by_cases h0 : 0 < n
  · obtain ⟨b, o, e, hlt, hi⟩ := hx h0
    refine ⟨A, n, c, (List.range n).map f, hv, hl, ⟨by simp, hn, fun _ => ⟨b, o, e, hlt, fun i hil => ?_⟩⟩, fun z hz => ?_⟩
    · have := (hi i (by simpa using hil)).1
      rw [Nat.mul_one] at this
      simpa using this
    · obtain ⟨i, hi', rfl⟩ := List.mem_map.1 hz
      exact (hi i (List.mem_range.1 hi')).2
  · obtain rfl : n = 0 := by omega
    exact ⟨A, 0, c, [], hv, hl, ⟨rfl, by simp, fun h => absurd h (by simp)⟩, by simp⟩
instance : Inhabited WaitV := ⟨⟨0, none, 0, 0, []⟩⟩
/-- A slice of waits, as it came in. -/
theorem waits_of {m : Nat} {v : Value} {y : DataW H × List MemPlace} (h : DataW.trod enc Try.prog W base spare held m 27 [v] = some y) : ∃ A n c L, v = .slice A n c ∧ n ≤ c ∧ Wts W A n L ∧ ∀ x ∈ L, wfI x.o = true ∧ ∀ z ∈ x.f, wfI z = true := by
  obtain ⟨A, n, c, f, hv, hl, hn, hx⟩ := slice_of (α := WaitV) (sz := 2) Try.underlying27 (by kernel_rfl) (by decide) (fun b o x => WtAt W b o x ∧ wfI x.o = true ∧ ∀ z ∈ x.f, wfI z = true) (by
    intro n cs y ht hlen
    match cs, hlen with
    | [c0, c1], _ =>
      obtain ⟨_, _, h0⟩ := fld Try.underlying41 ht 0 _ rfl
      obtain ⟨_, _, h1⟩ := fld Try.underlying41 ht 1 _ rfl
      simp [e3, e23] at h0 h1
      obtain ⟨s0, q0, _, hw⟩ := DataW.trod_int Try.underlying3 h0
      obtain ⟨A', n', c', l, rfl, _, hN, hwl⟩ := ints_of h1
      simp at q0
      subst q0
      exact ⟨⟨s0, A', n', c', l⟩, fun b o hj => ⟨⟨hj 0 (by decide), hj 1 (by decide), hN⟩, hw, hwl⟩⟩) h
  by_cases h0 : 0 < n
  · obtain ⟨b, o, e, hlt, hi⟩ := hx h0
    refine ⟨A, n, c, (List.range n).map f, hv, hl, ⟨by simp, hn, fun _ => ⟨b, o, e, hlt, fun i hil => ?_⟩⟩, fun z hz => ?_⟩
    · have := (hi i (by simpa using hil)).1
      simpa using this
    · obtain ⟨i, hi', rfl⟩ := List.mem_map.1 hz
      exact (hi i (List.mem_range.1 hi')).2
  · obtain rfl : n = 0 := by omega
    exact ⟨A, 0, c, [], hv, hl, ⟨rfl, by simp, fun h => absurd h (by simp)⟩, by simp⟩
/-- One of many slices of waits. -/
structure LsV where (A : Option Addr) (n c : Nat) (L : List WaitV)
instance : Inhabited LsV := ⟨⟨none, 0, 0, []⟩⟩
structure LsAt (w : World) (b o : Nat) (x : LsV) : Prop where
  c0 : w.cell? ⟨b, o, none⟩ = some (.slice x.A x.n x.c)
  wt : Wts w x.A x.n x.L
  wf : ∀ y ∈ x.L, wfI y.o = true ∧ ∀ z ∈ y.f, wfI z = true
def Lsts (w : World) (A : Option Addr) (n : Nat) (F : Nat → LsV) : Prop :=
  n ≤ 9223372036854775807 ∧ (0 < n → ∃ b o, A = some ⟨b, o, none⟩ ∧ b < w.heap.size ∧ ∀ i, i < n → LsAt w b (o + i) (F i))
theorem Lsts.below {w w' : World} {A : Option Addr} {n : Nat} {F : Nat → LsV} (h : Lsts w A n F) (hb : BelowC w w') : Lsts w' A n F := by
  refine ⟨h.1, fun h0 => ?_⟩
  obtain ⟨b, o, e, hlt, hc⟩ := h.2 h0
  exact ⟨b, o, e, bc_lt hb hlt, fun i hi => ⟨bc_cell (hc i hi).c0 hlt w' hb, (hc i hi).wt.below hb, (hc i hi).wf⟩⟩
theorem lsts_of {m : Nat} {v : Value} {y : DataW H × List MemPlace} (h : DataW.trod enc Try.prog W base spare held m 22 [v] = some y) : ∃ A n c F, v = .slice A n c ∧ Lsts W A n F := by
  obtain ⟨A, n, c, f, hv, hl, hn, hx⟩ := slice_of (α := LsV) (sz := 1) Try.underlying22 (by kernel_rfl) (by decide) (fun b o x => LsAt W b o x) (by
    intro n cs y ht hlen
    match cs, hlen with
    | [c0], _ =>
      obtain ⟨A', n', c', L, rfl, _, hW, hwf⟩ := waits_of ht
      exact ⟨⟨A', n', c', L⟩, fun b o hj => ⟨hj 0 (by decide), hW, hwf⟩⟩) h
  refine ⟨A, n, c, f, hv, hn, fun h0 => ?_⟩
  obtain ⟨b, o, e, hlt, hi⟩ := hx h0
  exact ⟨b, o, e, hlt, fun i hil => by have := hi i hil; rw [Nat.mul_one] at this; exact this⟩
theorem ask_open {b0 : Nat} {v : Value} {d : DataW H} {p : List MemPlace} (hv : Value.okWide Try.prog W .any b0 25 v) (h : DataW.Trod enc Try.prog W base spare held 25 v d p) :
    ∃ AL nL cL AA nA cA AN nN cN F, v = .agg #[.slice AL nL cL, .slice AA nA cA, .slice AN nN cN] ∧ Lsts W AL nL F ∧ nA ≤ 9223372036854775807 ∧ nN ≤ 9223372036854775807 := by
  obtain ⟨cs, rfl, hsz⟩ := okWide_struct Try.underlying25 hv
  obtain ⟨l⟩ := cs
  have e25 : Try.prog.cellsOf 25 = 3 := by kernel_rfl
  match l, hsz.trans e25 with
  | [c0, c1, c2], _ =>
    obtain ⟨fuel, hf⟩ := h
    simp only [Value.cells] at hf
    obtain ⟨_, _, h0⟩ := fld Try.underlying25 hf 0 _ rfl
    obtain ⟨_, _, h1⟩ := fld Try.underlying25 hf 1 _ rfl
    obtain ⟨_, _, h2⟩ := fld Try.underlying25 hf 2 _ rfl
    simp [e22, e23] at h0 h1 h2
    obtain ⟨AL, nL, cL, F, rfl, hF⟩ := lsts_of h0
    obtain ⟨AA, nA, cA, rfl, hA⟩ := len_only Try.underlying23 h1
    obtain ⟨AN, nN, cN, rfl, hN⟩ := len_only Try.underlying23 h2
    exact ⟨AL, nL, cL, AA, nA, cA, AN, nN, cN, F, rfl, hF, hA, hN⟩
end
end Go.Proofs.Ytmokjaelgfikeaa.K
