/- The argument of WaitEnds, opened with its reach. -/
import Derived.Test.YtmokjaelgfikeaaR
import Derived.Test.YtmokjaelgfikeaaC19
namespace Go.Proofs.Ytmokjaelgfikeaa.K
open Go.ChangeShapes Go.WideShapes Go.Deep Go.RowKit Go.Joins
set_option linter.unusedVariables false
set_option linter.unusedSimpArgs false
section
variable {H : Type} {enc : TypeId × Value → H} {W : World} {base : Nat} {spare : Nat → Bool} {held : Bool}
theorem y27 : Try.prog.bytesOf 27 = 24 := by kernel_rfl
theorem y41 : Try.prog.bytesOf 41 = 32 := by kernel_rfl
theorem y3 : Try.prog.bytesOf 3 = 8 := by kernel_rfl
theorem wall_mem {P : Program} {e : TypeId} : ∀ {l : List (DataW H)} {d : DataW H}, d ∈ l → ∀ n ∈ d.weights P e, n ∈ DataW.weightsAll P e l
  | _ :: _, _, h, n, hn => by
    simp only [DataW.weightsAll, List.mem_append]
    rcases List.mem_cons.1 h with rfl | h
    · exact Or.inl hn
    · exact Or.inr (wall_mem h n hn)
theorem fldw {t : TypeId} {fs : Array Field} (ht : Try.prog.underlying t = some (.struct fs)) {n : Nat} {cs : List Value} {y : DataW H × List MemPlace} (h : DataW.trod enc Try.prog W base spare held n t cs = some y) (hw : ∀ k ∈ y.1.weights Try.prog t, k ≤ reachBytes) (i : Nat) (f : Field) (hf : fs[i]? = some f) :
    ∃ n' y', DataW.trod enc Try.prog W base spare held n' f.type ((cs.drop f.offset).take (Try.prog.cellsOf f.type)) = some y' ∧ ∀ k ∈ y'.1.weights Try.prog f.type, k ≤ reachBytes := by
  obtain ⟨xs, n', _, hy, _, hl, hg⟩ := DataW.trod_struct ht h
  have hi : i < fs.size := (Array.getElem?_eq_some_iff.1 hf).1
  have hx : xs[i]? = some (xs[i]'(by omega)) := List.getElem?_eq_getElem (by omega)
  refine ⟨n', _, (hg i f hf).trans hx, fun k hk => hw k ?_⟩
  rw [hy]
  simp only [DataW.weights, ht]
  refine DataW.weights_mem_each (j := i) (t := f.type) (d := (xs[i]'(by omega)).1) ?_ ?_ k hk
  · rw [List.getElem?_map]
    simp [hf]
  · rw [List.getElem?_map, hx]
    rfl
theorem reach_of {t e : TypeId} (ht : Try.prog.underlying t = some (.slice e)) {m : Nat} {A : Option Addr} {n c : Nat} {y : DataW H × List MemPlace} (h : DataW.trod enc Try.prog W base spare held m t [.slice A n c] = some y) (hw : ∀ k ∈ y.1.weights Try.prog t, k ≤ reachBytes) : n * Try.prog.bytesOf e ≤ 140737488351232 := by
  rcases open_slice ht h with ⟨hcs, _⟩ | ⟨a, len, cap, q, n', D, Pl, hcs, _, hl, hm, hq, rfl, hi⟩
  · simp at hcs
    obtain ⟨_, rfl, _⟩ := hcs
    simp
  · simp at hcs
    obtain ⟨_, rfl, _⟩ := hcs
    have := hw _ (by simp only [DataW.weights, ht]; exact List.mem_cons_self)
    simp only [List.length_map, List.length_range] at this
    have hr : reachBytes = 140737488351232 := rfl
    rw [hr] at this
    exact Nat.le_trans (Nat.mul_le_mul_right _ (by omega)) this
/-- A slice whose elements each are read as Elem says. -/
theorem slice_ofw {α : Type} [Inhabited α] {t e : TypeId} {sz : Nat} (ht : Try.prog.underlying t = some (.slice e)) (hc : Try.prog.cellsOf e = sz) (h0 : 0 < sz) (Elem : Nat → Nat → α → Prop)
    (hel : ∀ n cs y, DataW.trod enc Try.prog W base spare held n e cs = some y → cs.length = sz → (∀ k ∈ y.1.weights Try.prog e, k ≤ reachBytes) → ∃ x : α, ∀ b o, (∀ j, j < sz → W.cell? ⟨b, o + j, none⟩ = cs[j]?) → Elem b o x)
    {m : Nat} {v : Value} {y : DataW H × List MemPlace} (h : DataW.trod enc Try.prog W base spare held m t [v] = some y) (hw : ∀ k ∈ y.1.weights Try.prog t, k ≤ reachBytes) :
    ∃ (A : Option Addr) (n c : Nat) (f : Nat → α), v = .slice A n c ∧ n ≤ c ∧ n ≤ 9223372036854775807 ∧ (0 < n → ∃ b o, A = some ⟨b, o, none⟩ ∧ b < W.heap.size ∧ ∀ i, i < n → Elem b (o + i * sz) (f i)) := by
  rcases open_slice ht h with ⟨hcs, _⟩ | ⟨a, len, cap, q, n, D, Pl, hcs, _, hl, hm, hq, rfl, hi⟩
  · simp at hcs
    exact ⟨none, 0, 0, fun _ => default, hcs, by simp, by simp, fun h => absurd h (by simp)⟩
  · simp at hcs
    have hml : maxLen = 9223372036854775807 := rfl
    have hll : len ≤ q := by rw [hq]; split <;> omega
    rw [hc] at hi
    by_cases hlen : 0 < len
    · obtain ⟨cs0, hcs0, _⟩ := hi 0 (by omega)
      obtain ⟨_, hl0, hat0⟩ := World.cells?_some hcs0
      have hz := hat0 0 h0
      rw [show 0 * sz = 0 by omega] at hz
      have hb : ∃ b o, a = ⟨b, o, none⟩ ∧ b < W.heap.size := by
        obtain ⟨b, o, sp⟩ := a
        have hv : cs0[0]? = some (cs0[0]'(by omega)) := List.getElem?_eq_getElem (by omega)
        rw [hv] at hz
        have hs : sp = none := World.cell?_spot hz
        subst hs
        exact ⟨b, o, rfl, cell_lt hz⟩
      obtain ⟨b, o, rfl, hlt⟩ := hb
      have each : ∀ i, i < len → ∃ x : α, Elem b (o + i * sz) x := by
        intro i hil
        obtain ⟨cs, hcs, htr⟩ := hi i (by omega)
        obtain ⟨_, hlc, hat⟩ := World.cells?_some hcs
        obtain ⟨x, hx⟩ := hel n cs _ htr hlc (fun k hk => hw k (by
          simp only [DataW.weights, ht]
          refine List.mem_cons_of_mem _ (List.mem_append_left _ (wall_mem (List.mem_map.2 ⟨i, List.mem_range.2 hil, rfl⟩) k hk))))
        refine ⟨x, hx b (o + i * sz) fun j hj => ?_⟩
        have := hat j hj
        rw [Go.Deep.add_add, Go.WideShapes.add_plain, ← Nat.add_assoc] at this
        exact this
      obtain ⟨f, hf⟩ := choose_lt each
      exact ⟨_, len, cap, f, hcs, hl, by omega, fun _ => ⟨b, o, rfl, hlt, hf⟩⟩
    · exact ⟨_, len, cap, fun _ => default, hcs, hl, by omega, fun h => absurd h hlen⟩

/-- A slice of waits, as it came in, with its reach. -/
theorem waits_ofw {m : Nat} {v : Value} {y : DataW H × List MemPlace} (h : DataW.trod enc Try.prog W base spare held m 27 [v] = some y) (hw : ∀ k ∈ y.1.weights Try.prog 27, k ≤ reachBytes) : ∃ A n c L, v = .slice A n c ∧ Wts W A n L ∧ (∀ x ∈ L, wfI x.o = true ∧ ∀ z ∈ x.f, wfI z = true) ∧ n ≤ 17592186044416 ∧ ∀ x ∈ L, x.n ≤ 17592186044416 := by
  obtain ⟨A, n, c, f, hv, hl, hn, hx⟩ := slice_ofw (α := WaitV) (sz := 2) Try.underlying27 (by kernel_rfl) (by decide) (fun b o x => WtAt W b o x ∧ (wfI x.o = true ∧ ∀ z ∈ x.f, wfI z = true) ∧ x.n ≤ 17592186044416) (by
    intro n cs y ht hlen hwe
    match cs, hlen with
    | [c0, c1], _ =>
      obtain ⟨_, _, h0⟩ := fld Try.underlying41 ht 0 _ rfl
      obtain ⟨_, _, h1, w1⟩ := fldw Try.underlying41 ht hwe 1 _ rfl
      simp [e3, e23] at h0 h1
      obtain ⟨s0, q0, _, hw⟩ := DataW.trod_int Try.underlying3 h0
      obtain ⟨A', n', c', l, rfl, _, hN, hwl⟩ := ints_of h1
      have b1 := reach_of Try.underlying23 h1 w1
      rw [y3] at b1
      simp at q0
      subst q0
      exact ⟨⟨s0, A', n', c', l⟩, fun b o hj => ⟨⟨hj 0 (by decide), hj 1 (by decide), hN⟩, ⟨hw, hwl⟩, by dsimp only; omega⟩⟩) h hw
  subst hv
  have b0 := reach_of Try.underlying27 h hw
  rw [y41] at b0
  by_cases h0 : 0 < n
  · obtain ⟨b, o, e, hlt, hi⟩ := hx h0
    refine ⟨A, n, c, (List.range n).map f, rfl, ⟨by simp, hn, fun _ => ⟨b, o, e, hlt, fun i hil => ?_⟩⟩, fun z hz => ?_, by omega, fun z hz => ?_⟩
    · have := (hi i (by simpa using hil)).1
      simpa using this
    · obtain ⟨i, hi', rfl⟩ := List.mem_map.1 hz
      exact (hi i (List.mem_range.1 hi')).2.1
    · obtain ⟨i, hi', rfl⟩ := List.mem_map.1 hz
      exact (hi i (List.mem_range.1 hi')).2.2
  · obtain rfl : n = 0 := by omega
    exact ⟨A, 0, c, [], rfl, ⟨rfl, by simp, fun h => absurd h (by simp)⟩, by simp, by omega, by simp⟩
theorem lsts_ofw {m : Nat} {v : Value} {y : DataW H × List MemPlace} (h : DataW.trod enc Try.prog W base spare held m 22 [v] = some y) (hw : ∀ k ∈ y.1.weights Try.prog 22, k ≤ reachBytes) : ∃ A n c F, v = .slice A n c ∧ Lsts W A n F ∧ n ≤ 17592186044416 ∧ ∀ i, i < n → FitP (F i) := by
  obtain ⟨A, n, c, f, hv, hl, hn, hx⟩ := slice_ofw (α := LsV) (sz := 1) Try.underlying22 (by kernel_rfl) (by decide) (fun b o x => LsAt W b o x ∧ FitP x) (by
    intro n cs y ht hlen hwe
    match cs, hlen with
    | [c0], _ =>
      obtain ⟨A', n', c', L, rfl, hW, hwf, hb1, hb2⟩ := waits_ofw ht hwe
      exact ⟨⟨A', n', c', L⟩, fun b o hj => ⟨⟨hj 0 (by decide), hW, hwf⟩, hb1, hb2⟩⟩) h hw
  subst hv
  have b0 := reach_of Try.underlying22 h hw
  rw [y27] at b0
  by_cases h0 : 0 < n
  · obtain ⟨b, o, e, hlt, hi⟩ := hx h0
    exact ⟨A, n, c, f, rfl, ⟨hn, fun _ => ⟨b, o, e, hlt, fun i hil => by have := (hi i hil).1; rw [Nat.mul_one] at this; exact this⟩⟩, by omega, fun i hil => (hi i hil).2⟩
  · exact ⟨A, n, c, f, rfl, ⟨hn, fun h => absurd h h0⟩, by omega, fun i hil => absurd hil (by omega)⟩
theorem ints_ofw {m : Nat} {v : Value} {y : DataW H × List MemPlace} (h : DataW.trod enc Try.prog W base spare held m 23 [v] = some y) (hw : ∀ k ∈ y.1.weights Try.prog 23, k ≤ reachBytes) : ∃ A n c, v = .slice A n c ∧ n ≤ 17592186044416 := by
  obtain ⟨A, n, c, rfl, _⟩ := len_only Try.underlying23 h
  have b0 := reach_of Try.underlying23 h hw
  rw [y3] at b0
  exact ⟨A, n, c, rfl, by omega⟩
theorem ask_fit {b0 : Nat} {v : Value} {d : DataW H} {p : List MemPlace} (hv : Value.okWide Try.prog W .any b0 25 v) (h : DataW.Trod enc Try.prog W base spare held 25 v d p) (hw : ∀ k ∈ d.weights Try.prog 25, k ≤ reachBytes) :
    ∃ AL nL cL AA nA cA AN nN cN F, v = .agg #[.slice AL nL cL, .slice AA nA cA, .slice AN nN cN] ∧ Lsts W AL nL F ∧ nL ≤ 17592186044416 ∧ (∀ i, i < nL → FitP (F i)) ∧ nA ≤ 17592186044416 ∧ nN ≤ 17592186044416 := by
  obtain ⟨cs, rfl, hsz⟩ := okWide_struct Try.underlying25 hv
  obtain ⟨l⟩ := cs
  have e25 : Try.prog.cellsOf 25 = 3 := by kernel_rfl
  match l, hsz.trans e25 with
  | [c0, c1, c2], _ =>
    obtain ⟨fuel, hf⟩ := h
    simp only [Value.cells] at hf
    obtain ⟨_, _, h0, w0⟩ := fldw Try.underlying25 hf hw 0 _ rfl
    obtain ⟨_, _, h1, w1⟩ := fldw Try.underlying25 hf hw 1 _ rfl
    obtain ⟨_, _, h2, w2⟩ := fldw Try.underlying25 hf hw 2 _ rfl
    simp [e22, e23] at h0 h1 h2
    obtain ⟨AL, nL, cL, F, rfl, hF, hL, hfit⟩ := lsts_ofw h0 w0
    obtain ⟨AA, nA, cA, rfl, hA⟩ := ints_ofw h1 w1
    obtain ⟨AN, nN, cN, rfl, hN⟩ := ints_ofw h2 w2
    exact ⟨AL, nL, cL, AA, nA, cA, AN, nN, cN, F, rfl, hF, hL, hfit, hA, hN⟩
end
end Go.Proofs.Ytmokjaelgfikeaa.K
