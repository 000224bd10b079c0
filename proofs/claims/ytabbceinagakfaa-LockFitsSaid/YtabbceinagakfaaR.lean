/- A call's argument of the laws of layer 3, opened. -/
import Derived.Test.YtabbceinagakfaaD27
import Derived.Lib.SmallJoins
import Derived.SliceStrings
import Derived.Deep.Slices
import Derived.Deep.Fields
import Derived.ChangeSame
import Derived.ProofKit
import Derived.OpenShut
namespace Go.Proofs.Ytabbceinagakfaa.K
open Go.ChangeShapes Go.WideShapes Go.Deep Go.RowKit Go.Joins
set_option linter.unusedVariables false
set_option linter.unusedSimpArgs false
theorem plain_addr {w : World} {a : Addr} {v : Value} (h : w.cell? (a.add 0) = some v) : ∃ b o, a = ⟨b, o, none⟩ := by
  obtain ⟨b, off, spot⟩ := a
  have hspot : spot = none := World.cell?_spot h
  subst hspot
  exact ⟨b, off, rfl⟩
theorem cell_lt {w : World} {b o : Nat} {v : Value} (h : w.cell? ⟨b, o, none⟩ = some v) : b < w.heap.size := by
  apply Classical.byContradiction
  intro hn
  have : w.heap[b]? = none := Array.getElem?_eq_none (by omega)
  simp [World.cell?, this] at h
section
variable {H : Type} {enc : TypeId × Value → H} {W : World} {base : Nat} {spare : Nat → Bool} {held : Bool}
/-- A struct's field. -/
theorem fld {t : TypeId} {fs : Array Field} (ht : Try.prog.underlying t = some (.struct fs)) {n : Nat} {cs : List Value} {y : DataW H × List MemPlace} (h : DataW.trod enc Try.prog W base spare held n t cs = some y) (i : Nat) (f : Field) (hf : fs[i]? = some f) :
    ∃ n' y', DataW.trod enc Try.prog W base spare held n' f.type ((cs.drop f.offset).take (Try.prog.cellsOf f.type)) = some y' := by
  obtain ⟨xs, n', _, _, _, hl, hg⟩ := DataW.trod_struct ht h
  have hi : i < fs.size := (Array.getElem?_eq_some_iff.1 hf).1
  exact ⟨n', _, (hg i f hf).trans (List.getElem?_eq_getElem (by omega))⟩
theorem len_of {t : TypeId} {fs : Array Field} (ht : Try.prog.underlying t = some (.struct fs)) {n : Nat} {cs : List Value} {y : DataW H × List MemPlace} (h : DataW.trod enc Try.prog W base spare held n t cs = some y) : cs.length = Try.prog.cellsOf t := by
  obtain ⟨xs, n', _, _, hc, _, _⟩ := DataW.trod_struct ht h
  exact hc
/-- A slice whose elements each are read as Elem says. -/
theorem slice_of {α : Type} [Inhabited α] {t e : TypeId} {sz : Nat} (ht : Try.prog.underlying t = some (.slice e)) (hc : Try.prog.cellsOf e = sz) (h0 : 0 < sz) (Elem : Nat → Nat → α → Prop)
    (hel : ∀ n cs y, DataW.trod enc Try.prog W base spare held n e cs = some y → cs.length = sz → ∃ x : α, ∀ b o, (∀ j, j < sz → W.cell? ⟨b, o + j, none⟩ = cs[j]?) → Elem b o x)
    {m : Nat} {v : Value} {y : DataW H × List MemPlace} (h : DataW.trod enc Try.prog W base spare held m t [v] = some y) :
    ∃ (A : Option Addr) (n c : Nat) (f : Nat → α), v = .slice A n c ∧ n ≤ c ∧ n ≤ 9223372036854775807 ∧ (0 < n → ∃ b o, A = some ⟨b, o, none⟩ ∧ b < W.heap.size ∧ ∀ i, i < n → Elem b (o + i * sz) (f i)) := by
  rcases open_slice ht h with ⟨hcs, _⟩ | ⟨a, len, cap, q, n, D, Pl, hcs, _, hl, hm, hq, _, hi⟩
  · simp at hcs
    exact ⟨none, 0, 0, fun _ => default, hcs, by simp, by simp, fun h => absurd h (by simp)⟩
  · simp at hcs
    have hml : maxLen = 9223372036854775807 := rfl
    have hll : len ≤ q := by rw [hq]; split <;> omega
    rw [hc] at hi
    by_cases hlen : 0 < len
    · obtain ⟨cs0, hcs0, _⟩ := hi 0 (by omega)
      obtain ⟨_, hl0, hat0⟩ := World.cells?_some hcs0
      have hz := hat0 0 h0
      rw [show 0 * sz = 0 by omega] at hz
      have hb : ∃ b o, a = ⟨b, o, none⟩ ∧ b < W.heap.size := by
        obtain ⟨b, o, sp⟩ := a
        have hv : cs0[0]? = some (cs0[0]'(by omega)) := List.getElem?_eq_getElem (by omega)
        rw [hv] at hz
        have hs : sp = none := World.cell?_spot hz
        subst hs
        exact ⟨b, o, rfl, cell_lt hz⟩
      obtain ⟨b, o, rfl, hlt⟩ := hb
      have each : ∀ i, i < len → ∃ x : α, Elem b (o + i * sz) x := by
        intro i hil
        obtain ⟨cs, hcs, htr⟩ := hi i (by omega)
        obtain ⟨_, hlc, hat⟩ := World.cells?_some hcs
        obtain ⟨x, hx⟩ := hel n cs _ htr hlc
        refine ⟨x, hx b (o + i * sz) fun j hj => ?_⟩
        have := hat j hj
        rw [Go.Deep.add_add, Go.WideShapes.add_plain, ← Nat.add_assoc] at this
        exact this
      obtain ⟨f, hf⟩ := choose_lt each
      exact ⟨_, len, cap, f, hcs, hl, by omega, fun _ => ⟨b, o, rfl, hlt, hf⟩⟩
    · exact ⟨_, len, cap, fun _ => default, hcs, hl, by omega, fun h => absurd h hlen⟩

theorem e3 : Try.prog.cellsOf 3 = 1 := by kernel_rfl
theorem e4 : Try.prog.cellsOf 4 = 1 := by kernel_rfl
theorem e9 : Try.prog.cellsOf 9 = 1 := by kernel_rfl
theorem e29 : Try.prog.cellsOf 29 = 3 := by kernel_rfl
theorem e31 : Try.prog.cellsOf 31 = 6 := by kernel_rfl
theorem e22 : Try.prog.cellsOf 22 = 1 := by kernel_rfl
theorem e23 : Try.prog.cellsOf 23 = 1 := by kernel_rfl
theorem y31 : Try.prog.bytesOf 31 = 64 := by kernel_rfl
theorem y33 : Try.prog.bytesOf 33 = 80 := by kernel_rfl
theorem fldw {t : TypeId} {fs : Array Field} (ht : Try.prog.underlying t = some (.struct fs)) {n : Nat} {cs : List Value} {y : DataW H × List MemPlace} (h : DataW.trod enc Try.prog W base spare held n t cs = some y) (hw : ∀ k ∈ y.1.weights Try.prog t, k ≤ reachBytes) (i : Nat) (f : Field) (hf : fs[i]? = some f) :
    ∃ n' y', DataW.trod enc Try.prog W base spare held n' f.type ((cs.drop f.offset).take (Try.prog.cellsOf f.type)) = some y' ∧ ∀ k ∈ y'.1.weights Try.prog f.type, k ≤ reachBytes := by
  obtain ⟨xs, n', _, hy, _, hl, hg⟩ := DataW.trod_struct ht h
  have hi : i < fs.size := (Array.getElem?_eq_some_iff.1 hf).1
  have hx : xs[i]? = some (xs[i]'(by omega)) := List.getElem?_eq_getElem (by omega)
  refine ⟨n', _, (hg i f hf).trans hx, fun k hk => hw k ?_⟩
  rw [hy]
  simp only [DataW.weights, ht]
  refine DataW.weights_mem_each (j := i) (t := f.type) (d := (xs[i]'(by omega)).1) ?_ ?_ k hk
  · rw [List.getElem?_map]
    simp [hf]
  · rw [List.getElem?_map, hx]
    rfl
theorem reach_of {t e : TypeId} (ht : Try.prog.underlying t = some (.slice e)) {m : Nat} {A : Option Addr} {n c : Nat} {y : DataW H × List MemPlace} (h : DataW.trod enc Try.prog W base spare held m t [.slice A n c] = some y) (hw : ∀ k ∈ y.1.weights Try.prog t, k ≤ reachBytes) : n * Try.prog.bytesOf e ≤ 140737488351232 := by
  rcases open_slice ht h with ⟨hcs, _⟩ | ⟨a, len, cap, q, n', D, Pl, hcs, _, hl, hm, hq, rfl, hi⟩
  · simp at hcs
    obtain ⟨_, rfl, _⟩ := hcs
    simp
  · simp at hcs
    obtain ⟨_, rfl, _⟩ := hcs
    have := hw _ (by simp only [DataW.weights, ht]; exact List.mem_cons_self)
    simp only [List.length_map, List.length_range] at this
    have hr : reachBytes = 140737488351232 := rfl
    rw [hr] at this
    exact Nat.le_trans (Nat.mul_le_mul_right _ (by omega)) this
theorem lock_cells {n : Nat} {cs : List Value} {y : DataW H × List MemPlace} (h : DataW.trod enc Try.prog W base spare held n 31 cs = some y) (hl : cs.length = 6) : ∃ x : LockV, cs = lkCells x := by
  match cs, hl with
  | [c0, c1, c2, c3, c4, c5], _ =>
    obtain ⟨_, _, h0⟩ := fld Try.underlying31 h 0 _ rfl
    obtain ⟨_, _, h1⟩ := fld Try.underlying31 h 1 _ rfl
    obtain ⟨_, _, h2⟩ := fld Try.underlying31 h 2 _ rfl
    obtain ⟨_, _, h3⟩ := fld Try.underlying31 h 3 _ rfl
    simp [e3, e29] at h0 h1 h2 h3
    obtain ⟨_, _, g0⟩ := fld Try.underlying29 h2 0 _ rfl
    obtain ⟨_, _, g1⟩ := fld Try.underlying29 h2 1 _ rfl
    obtain ⟨_, _, g2⟩ := fld Try.underlying29 h2 2 _ rfl
    simp [e9, e4] at g0 g1 g2
    obtain ⟨s0, q0, _⟩ := DataW.trod_int Try.underlying3 h0
    obtain ⟨s1, q1, _⟩ := DataW.trod_int Try.underlying3 h1
    obtain ⟨s2, q2, _⟩ := DataW.trod_string Try.underlying9 g0
    obtain ⟨s3, q3, _⟩ := DataW.trod_string Try.underlying9 g1
    obtain ⟨s4, q4, _⟩ := DataW.trod_bool Try.underlying4 g2
    obtain ⟨s5, q5, _⟩ := DataW.trod_int Try.underlying3 h3
    simp at q0 q1 q2 q3 q4 q5
    subst q0 q1 q2 q3 q4 q5
    exact ⟨⟨s0, s1, s2, s3, s4, s5⟩, rfl⟩
theorem locks_of {m : Nat} {v : Value} {y : DataW H × List MemPlace} (h : DataW.trod enc Try.prog W base spare held m 22 [v] = some y) : ∃ A n c L, v = .slice A n c ∧ n ≤ c ∧ Lks W A n L := by
  obtain ⟨A, n, c, f, hv, hl, hn, hx⟩ := slice_of (α := LockV) (sz := 6) Try.underlying22 (by kernel_rfl) (by decide) (fun b o x => LkAt W b o x) (by
    intro n cs y ht hlen
    obtain ⟨x, rfl⟩ := lock_cells ht hlen
    exact ⟨x, fun b o hj => lk_at hj⟩) h
  refine ⟨A, n, c, (List.range n).map f, hv, hl, by simp, hn, fun h0 => ?_⟩
  obtain ⟨b, o, e, hlt, hi⟩ := hx h0
  exact ⟨b, o, e, hlt, fun i hil => by have := hi i (by simpa using hil); simpa using this⟩
instance : Inhabited ActV := ⟨⟨0, 0, default⟩⟩
theorem acts_of {m : Nat} {v : Value} {y : DataW H × List MemPlace} (h : DataW.trod enc Try.prog W base spare held m 23 [v] = some y) : ∃ A n c F, v = .slice A n c ∧ n ≤ c ∧ Acts W A n F := by
  obtain ⟨A, n, c, f, hv, hl, hn, hx⟩ := slice_of (α := ActV) (sz := 8) Try.underlying23 (by kernel_rfl) (by decide) (fun b o x => ActAt W b o x) (by
    intro n cs y ht hlen
    match cs, hlen with
    | [c0, c1, c2, c3, c4, c5, c6, c7], _ =>
      obtain ⟨_, _, h0⟩ := fld Try.underlying33 ht 0 _ rfl
      obtain ⟨_, _, h1⟩ := fld Try.underlying33 ht 1 _ rfl
      obtain ⟨_, _, h2⟩ := fld Try.underlying33 ht 2 _ rfl
      simp [e3, e31] at h0 h1 h2
      obtain ⟨s0, q0, _⟩ := DataW.trod_int Try.underlying3 h0
      obtain ⟨s1, q1, _⟩ := DataW.trod_int Try.underlying3 h1
      obtain ⟨x, hx⟩ := lock_cells h2 rfl
      simp [lkCells] at q0 q1 hx
      obtain ⟨r0, r1, r2, r3, r4, r5⟩ := hx
      subst q0 q1 r0 r1 r2 r3 r4 r5
      exact ⟨⟨s0, s1, x⟩, fun b o hj => ⟨hj 0 (by decide), hj 1 (by decide), hj 2 (by decide), hj 3 (by decide), hj 4 (by decide), hj 5 (by decide), hj 6 (by decide), hj 7 (by decide)⟩⟩) h
  exact ⟨A, n, c, f, hv, hl, hn, hx⟩
theorem ask_open {b0 : Nat} {v : Value} {d : DataW H} {p : List MemPlace} (hv : Value.okWide Try.prog W .any b0 25 v) (h : DataW.Trod enc Try.prog W base spare held 25 v d p) (hw : ∀ k ∈ d.weights Try.prog 25, k ≤ reachBytes) :
    ∃ AL nL cL AA nA cA L F, v = .agg #[.slice AL nL cL, .slice AA nA cA] ∧ Lks W AL nL L ∧ nL ≤ cL ∧ nL ≤ 2199023255500 ∧ Acts W AA nA F ∧ nA ≤ 1759218604400 := by
  obtain ⟨cs, rfl, hsz⟩ := okWide_struct Try.underlying25 hv
  obtain ⟨l⟩ := cs
  have e25 : Try.prog.cellsOf 25 = 2 := by kernel_rfl
  match l, hsz.trans e25 with
  | [c0, c1], _ =>
    obtain ⟨fuel, hf⟩ := h
    simp only [Value.cells] at hf
    obtain ⟨_, _, h0, w0⟩ := fldw Try.underlying25 hf hw 0 _ rfl
    obtain ⟨_, _, h1, w1⟩ := fldw Try.underlying25 hf hw 1 _ rfl
    simp [e22, e23] at h0 h1
    obtain ⟨AL, nL, cL, L, rfl, hcL, hL⟩ := locks_of h0
    obtain ⟨AA, nA, cA, F, rfl, _, hA⟩ := acts_of h1
    have b0 := reach_of Try.underlying22 h0 w0
    have b1 := reach_of Try.underlying23 h1 w1
    rw [y31] at b0
    rw [y33] at b1
    exact ⟨AL, nL, cL, AA, nA, cA, L, F, rfl, hL, hcL, by omega, hA, by omega⟩
end
end Go.Proofs.Ytabbceinagakfaa.K
