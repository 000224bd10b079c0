/- A call's argument of the laws of layer 14, opened. -/
import Derived.Test.YtldjgcgcbcmkfaaB10
import Derived.Lib.SmallJoins
import Derived.SliceStrings
import Derived.Deep.Slices
import Derived.Deep.Fields
import Derived.ChangeSame
import Derived.ProofKit
import Derived.OpenShut
namespace Go.Proofs.Ytldjgcgcbcmkfaa.K
open Go.ChangeShapes Go.WideShapes Go.Deep Go.RowKit Go.Joins
set_option linter.unusedVariables false
set_option linter.unusedSimpArgs false
theorem plain_addr {w : World} {a : Addr} {v : Value} (h : w.cell? (a.add 0) = some v) : ∃ b o, a = ⟨b, o, none⟩ := by
  obtain ⟨b, off, spot⟩ := a
  have hspot : spot = none := World.cell?_spot h
  subst hspot
  exact ⟨b, off, rfl⟩
theorem cell_lt {w : World} {b o : Nat} {v : Value} (h : w.cell? ⟨b, o, none⟩ = some v) : b < w.heap.size := by
  apply Classical.byContradiction
  intro hn
  have : w.heap[b]? = none := Array.getElem?_eq_none (by omega)
  simp [World.cell?, this] at h
section
variable {H : Type} {enc : TypeId × Value → H} {W : World} {base : Nat} {spare : Nat → Bool} {held : Bool}
/-- A struct's field. -/
theorem fld {t : TypeId} {fs : Array Field} (ht : Try.prog.underlying t = some (.struct fs)) {n : Nat} {cs : List Value} {y : DataW H × List MemPlace} (h : DataW.trod enc Try.prog W base spare held n t cs = some y) (i : Nat) (f : Field) (hf : fs[i]? = some f) :
    ∃ n' y', DataW.trod enc Try.prog W base spare held n' f.type ((cs.drop f.offset).take (Try.prog.cellsOf f.type)) = some y' := by
  obtain ⟨xs, n', _, _, _, hl, hg⟩ := DataW.trod_struct ht h
  have hi : i < fs.size := (Array.getElem?_eq_some_iff.1 hf).1
  exact ⟨n', _, (hg i f hf).trans (List.getElem?_eq_getElem (by omega))⟩
theorem len_of {t : TypeId} {fs : Array Field} (ht : Try.prog.underlying t = some (.struct fs)) {n : Nat} {cs : List Value} {y : DataW H × List MemPlace} (h : DataW.trod enc Try.prog W base spare held n t cs = some y) : cs.length = Try.prog.cellsOf t := by
  obtain ⟨xs, n', _, _, hc, _, _⟩ := DataW.trod_struct ht h
  exact hc
/-- A slice whose elements each are read as Elem says. -/
theorem slice_of {α : Type} [Inhabited α] {t e : TypeId} {sz : Nat} (ht : Try.prog.underlying t = some (.slice e)) (hc : Try.prog.cellsOf e = sz) (h0 : 0 < sz) (Elem : Nat → Nat → α → Prop)
    (hel : ∀ n cs y, DataW.trod enc Try.prog W base spare held n e cs = some y → cs.length = sz → ∃ x : α, ∀ b o, (∀ j, j < sz → W.cell? ⟨b, o + j, none⟩ = cs[j]?) → Elem b o x)
    {m : Nat} {v : Value} {y : DataW H × List MemPlace} (h : DataW.trod enc Try.prog W base spare held m t [v] = some y) :
    ∃ (A : Option Addr) (n c : Nat) (f : Nat → α), v = .slice A n c ∧ n ≤ c ∧ n ≤ 9223372036854775807 ∧ (0 < n → ∃ b o, A = some ⟨b, o, none⟩ ∧ b < W.heap.size ∧ ∀ i, i < n → Elem b (o + i * sz) (f i)) := by
  rcases open_slice ht h with ⟨hcs, _⟩ | ⟨a, len, cap, q, n, D, Pl, hcs, _, hl, hm, hq, _, hi⟩
  · simp at hcs
    exact ⟨none, 0, 0, fun _ => default, hcs, by simp, by simp, fun h => absurd h (by simp)⟩
  · simp at hcs
    have hml : maxLen = 9223372036854775807 := rfl
    have hll : len ≤ q := by rw [hq]; split <;> omega
    rw [hc] at hi
    by_cases hlen : 0 < len
    · obtain ⟨cs0, hcs0, _⟩ := hi 0 (by omega)
      obtain ⟨_, hl0, hat0⟩ := World.cells?_some hcs0
      have hz := hat0 0 h0
      rw [show 0 * sz = 0 by omega] at hz
      have hb : ∃ b o, a = ⟨b, o, none⟩ ∧ b < W.heap.size := by
        obtain ⟨b, o, sp⟩ := a
        have hv : cs0[0]? = some (cs0[0]'(by omega)) := List.getElem?_eq_getElem (by omega)
        rw [hv] at hz
        have hs : sp = none := World.cell?_spot hz
        subst hs
        exact ⟨b, o, rfl, cell_lt hz⟩
      obtain ⟨b, o, rfl, hlt⟩ := hb
      have each : ∀ i, i < len → ∃ x : α, Elem b (o + i * sz) x := by
        intro i hil
        obtain ⟨cs, hcs, htr⟩ := hi i (by omega)
        obtain ⟨_, hlc, hat⟩ := World.cells?_some hcs
        obtain ⟨x, hx⟩ := hel n cs _ htr hlc
        refine ⟨x, hx b (o + i * sz) fun j hj => ?_⟩
        have := hat j hj
        rw [Go.Deep.add_add, Go.WideShapes.add_plain, ← Nat.add_assoc] at this
        exact this
      obtain ⟨f, hf⟩ := choose_lt each
      exact ⟨_, len, cap, f, hcs, hl, by omega, fun _ => ⟨b, o, rfl, hlt, hf⟩⟩
    · exact ⟨_, len, cap, fun _ => default, hcs, hl, by omega, fun h => absurd h hlen⟩

instance : Inhabited RowV := ⟨⟨⟨#[]⟩, ⟨#[]⟩⟩⟩
instance : Inhabited OpV := ⟨⟨0, 0, ⟨#[]⟩, ⟨#[]⟩, ⟨#[]⟩, ⟨#[]⟩, false, 0, false⟩⟩
instance : Inhabited PrV := ⟨⟨false, none, 0, 0, fun _ => default⟩⟩
instance : Inhabited MpV := ⟨⟨none, 0, 0, fun _ => default⟩⟩
theorem e3 : Try.prog.cellsOf 3 = 1 := by kernel_rfl
theorem e4 : Try.prog.cellsOf 4 = 1 := by kernel_rfl
theorem e9 : Try.prog.cellsOf 9 = 1 := by kernel_rfl
theorem e42 : Try.prog.cellsOf 42 = 3 := by kernel_rfl
theorem e38 : Try.prog.cellsOf 38 = 1 := by kernel_rfl
theorem e65 : Try.prog.cellsOf 65 = 1 := by kernel_rfl
theorem e22 : Try.prog.cellsOf 22 = 1 := by kernel_rfl
theorem e23 : Try.prog.cellsOf 23 = 1 := by kernel_rfl
theorem e24 : Try.prog.cellsOf 24 = 1 := by kernel_rfl
theorem e25 : Try.prog.cellsOf 25 = 1 := by kernel_rfl
theorem e28 : Try.prog.cellsOf 28 = 1 := by kernel_rfl
theorem e27 : Try.prog.cellsOf 27 = 2 := by kernel_rfl
theorem e30 : Try.prog.cellsOf 30 = 4 := by kernel_rfl
theorem rows_of {m : Nat} {v : Value} {y : DataW H × List MemPlace} (h : DataW.trod enc Try.prog W base spare held m 65 [v] = some y) : ∃ A n c R, v = .slice A n c ∧ n ≤ c ∧ Rws W A n R := by
  obtain ⟨A, n, c, f, hv, hl, hn, hx⟩ := slice_of (α := RowV) (sz := 2) Try.underlying65 (by kernel_rfl) (by decide) (fun b o x => W.cell? ⟨b, o, none⟩ = some (.string x.k) ∧ W.cell? ⟨b, o + 1, none⟩ = some (.string x.v)) (by
    intro n cs y ht hlen
    match cs, hlen with
    | [c0, c1], _ =>
      obtain ⟨_, _, h0⟩ := fld Try.underlying67 ht 0 _ rfl
      obtain ⟨_, _, h1⟩ := fld Try.underlying67 ht 1 _ rfl
      simp [e9] at h0 h1
      obtain ⟨s0, q0, _⟩ := DataW.trod_string Try.underlying9 h0
      obtain ⟨s1, q1, _⟩ := DataW.trod_string Try.underlying9 h1
      simp at q0 q1
      subst q0 q1
      exact ⟨⟨s0, s1⟩, fun b o hj => ⟨hj 0 (by decide), hj 1 (by decide)⟩⟩) h
  exact ⟨A, n, c, f, hv, hl, hn, hx⟩
theorem maps_of {m : Nat} {v : Value} {y : DataW H × List MemPlace} (h : DataW.trod enc Try.prog W base spare held m 23 [v] = some y) : ∃ A n c M, v = .slice A n c ∧ n ≤ c ∧ Mps W A n M := by
  obtain ⟨A, n, c, f, hv, hl, hn, hx⟩ := slice_of (α := MpV) (sz := 1) Try.underlying23 (by kernel_rfl) (by decide) (fun b o x => W.cell? ⟨b, o, none⟩ = some (.slice x.A x.n x.c) ∧ Rws W x.A x.n x.R) (by
    intro n cs y ht hlen
    match cs, hlen with
    | [c0], _ =>
      obtain ⟨A', n', c', R', rfl, _, hR⟩ := rows_of ht
      exact ⟨⟨A', n', c', R'⟩, fun b o hj => ⟨hj 0 (by decide), hR⟩⟩) h
  refine ⟨A, n, c, f, hv, hl, hn, fun h0 => ?_⟩
  obtain ⟨b, o, e, hlt, hi⟩ := hx h0
  exact ⟨b, o, e, hlt, fun i hil => by have := hi i hil; rw [Nat.mul_one] at this; exact this⟩
theorem writes_of {m : Nat} {v : Value} {y : DataW H × List MemPlace} (h : DataW.trod enc Try.prog W base spare held m 24 [v] = some y) : ∃ A n c R, v = .slice A n c ∧ n ≤ c ∧ Wrts W A n R := by
  obtain ⟨A, n, c, f, hv, hl, hn, hx⟩ := slice_of (α := RowV) (sz := 4) Try.underlying24 (by kernel_rfl) (by decide) (fun b o x => W.cell? ⟨b, o + 1, none⟩ = some (.string x.k) ∧ W.cell? ⟨b, o + 2, none⟩ = some (.string x.v)) (by
    intro n cs y ht hlen
    match cs, hlen with
    | [c0, c1, c2, c3], _ =>
      obtain ⟨_, _, h0⟩ := fld Try.underlying69 ht 1 _ rfl
      obtain ⟨_, _, h1⟩ := fld Try.underlying69 ht 2 _ rfl
      simp [e9] at h0 h1
      obtain ⟨s0, q0, _⟩ := DataW.trod_string Try.underlying9 h0
      obtain ⟨s1, q1, _⟩ := DataW.trod_string Try.underlying9 h1
      simp at q0 q1
      subst q0 q1
      exact ⟨⟨s0, s1⟩, fun b o hj => ⟨hj 1 (by decide), hj 2 (by decide)⟩⟩) h
  exact ⟨A, n, c, f, hv, hl, hn, hx⟩
theorem ops_of {m : Nat} {v : Value} {y : DataW H × List MemPlace} (h : DataW.trod enc Try.prog W base spare held m 38 [v] = some y) : ∃ A n c f, v = .slice A n c ∧ n ≤ c ∧ Ops W A n f := by
  obtain ⟨A, n, c, f, hv, hl, hn, hx⟩ := slice_of (α := OpV) (sz := 9) Try.underlying38 (by kernel_rfl) (by decide) (fun b o x => OpAt W b o x) (by
    intro n cs y ht hlen
    match cs, hlen with
    | [c0, c1, c2, c3, c4, c5, c6, c7, c8], _ =>
      obtain ⟨_, _, h0⟩ := fld Try.underlying44 ht 0 _ rfl
      obtain ⟨_, _, h1⟩ := fld Try.underlying44 ht 1 _ rfl
      obtain ⟨_, _, h2⟩ := fld Try.underlying44 ht 2 _ rfl
      obtain ⟨_, _, h3⟩ := fld Try.underlying44 ht 3 _ rfl
      obtain ⟨_, _, h4⟩ := fld Try.underlying44 ht 4 _ rfl
      obtain ⟨_, _, h7⟩ := fld Try.underlying44 ht 5 _ rfl
      obtain ⟨_, _, h8⟩ := fld Try.underlying44 ht 6 _ rfl
      simp [e3, e9, e4, e42] at h0 h1 h2 h3 h4 h7 h8
      obtain ⟨_, _, g0⟩ := fld Try.underlying42 h4 0 _ rfl
      obtain ⟨_, _, g1⟩ := fld Try.underlying42 h4 1 _ rfl
      obtain ⟨_, _, g2⟩ := fld Try.underlying42 h4 2 _ rfl
      simp [e3, e9, e4] at g0 g1 g2
      obtain ⟨s0, q0, _⟩ := DataW.trod_int Try.underlying3 h0
      obtain ⟨s1, q1, _⟩ := DataW.trod_int Try.underlying3 h1
      obtain ⟨s2, q2, _⟩ := DataW.trod_string Try.underlying9 h2
      obtain ⟨s3, q3, _⟩ := DataW.trod_string Try.underlying9 h3
      obtain ⟨s4, q4, _⟩ := DataW.trod_string Try.underlying9 g0
      obtain ⟨s5, q5, _⟩ := DataW.trod_string Try.underlying9 g1
      obtain ⟨s6, q6, _⟩ := DataW.trod_bool Try.underlying4 g2
      obtain ⟨s7, q7, _⟩ := DataW.trod_int Try.underlying3 h7
      obtain ⟨s8, q8, _⟩ := DataW.trod_bool Try.underlying4 h8
      simp at q0 q1 q2 q3 q4 q5 q6 q7 q8
      subst q0 q1 q2 q3 q4 q5 q6 q7 q8
      exact ⟨⟨s0, s1, s2, s3, s4, s5, s6, s7, s8⟩, fun b o hj => ⟨hj 0 (by decide), hj 1 (by decide), hj 2 (by decide), hj 3 (by decide), hj 4 (by decide), hj 5 (by decide), hj 6 (by decide), hj 7 (by decide), hj 8 (by decide)⟩⟩) h
  exact ⟨A, n, c, f, hv, hl, hn, hx⟩
theorem progs_of {m : Nat} {v : Value} {y : DataW H × List MemPlace} (h : DataW.trod enc Try.prog W base spare held m 28 [v] = some y) : ∃ A n c G, v = .slice A n c ∧ n ≤ c ∧ Progs W A n G := by
  obtain ⟨A, n, c, f, hv, hl, hn, hx⟩ := slice_of (α := PrV) (sz := 2) Try.underlying28 (by kernel_rfl) (by decide) (fun b o x => PrAt W b o x) (by
    intro n cs y ht hlen
    match cs, hlen with
    | [c0, c1], _ =>
      obtain ⟨_, _, h0⟩ := fld Try.underlying40 ht 0 _ rfl
      obtain ⟨_, _, h1⟩ := fld Try.underlying40 ht 1 _ rfl
      simp [e4, e38] at h0 h1
      obtain ⟨s0, q0, _⟩ := DataW.trod_bool Try.underlying4 h0
      obtain ⟨A', n', c', f', q1, _, hO⟩ := ops_of h1
      simp at q0
      subst q0 q1
      exact ⟨⟨s0, A', n', c', f'⟩, fun b o hj => ⟨hj 0 (by decide), hj 1 (by decide), hO⟩⟩) h
  exact ⟨A, n, c, f, hv, hl, hn, hx⟩
theorem len_only {t e : TypeId} {m : Nat} {v : Value} {y : DataW H × List MemPlace} (ht : Try.prog.underlying t = some (.slice e)) (h : DataW.trod enc Try.prog W base spare held m t [v] = some y) : ∃ A n c, v = .slice A n c ∧ n ≤ 9223372036854775807 := by
  have hml : maxLen = 9223372036854775807 := rfl
  rcases open_slice ht h with ⟨hcs, _⟩ | ⟨a, len, cap, q, n, D, Pl, hcs, _, hl, hm, hq, _, hi⟩
  · simp at hcs
    exact ⟨none, 0, 0, hcs, by simp⟩
  · simp at hcs
    exact ⟨_, len, cap, hcs, by omega⟩
theorem ask_open {b0 : Nat} {v : Value} {d : DataW H} {p : List MemPlace} (hv : Value.okWide Try.prog W .any b0 32 v) (h : DataW.Trod enc Try.prog W base spare held 32 v d p) :
    ∃ AC nC cC AM nM cM AL nL cL AK nK cK AG nG cG M R G, v = .agg #[.slice AC nC cC, .slice AM nM cM, .slice AL nL cL, .slice AK nK cK, .slice AG nG cG] ∧ Mps W AM nM M ∧ Wrts W AL nL R ∧ nK ≤ 9223372036854775807 ∧ Progs W AG nG G ∧ nC ≤ 9223372036854775807 ∧ nG ≤ cG := by
  obtain ⟨cs, rfl, hsz⟩ := okWide_struct Try.underlying32 hv
  obtain ⟨l⟩ := cs
  have e32 : Try.prog.cellsOf 32 = 5 := by kernel_rfl
  match l, hsz.trans e32 with
  | [c0, c1, c2, c3, c4], _ =>
    obtain ⟨fuel, hf⟩ := h
    simp only [Value.cells] at hf
    obtain ⟨_, _, h0⟩ := fld Try.underlying32 hf 0 _ rfl
    obtain ⟨_, _, h1⟩ := fld Try.underlying32 hf 1 _ rfl
    simp [e22, e30] at h0 h1
    obtain ⟨_, _, hM⟩ := fld Try.underlying30 h1 0 _ rfl
    obtain ⟨_, _, hP⟩ := fld Try.underlying30 h1 1 _ rfl
    obtain ⟨_, _, hG⟩ := fld Try.underlying30 h1 2 _ rfl
    simp [e23, e27, e28] at hM hP hG
    obtain ⟨_, _, hL⟩ := fld Try.underlying27 hP 0 _ rfl
    obtain ⟨_, _, hK⟩ := fld Try.underlying27 hP 1 _ rfl
    simp [e24, e25] at hL hK
    obtain ⟨AC, nC, cC, rfl, hC⟩ := len_only Try.underlying22 h0
    obtain ⟨AM, nM, cM, M, rfl, _, hM⟩ := maps_of hM
    obtain ⟨AL, nL, cL, R, rfl, _, hL⟩ := writes_of hL
    obtain ⟨AK, nK, cK, rfl, hKK⟩ := len_only Try.underlying25 hK
    obtain ⟨AG, nG, cG, G, rfl, hcap, hG⟩ := progs_of hG
    exact ⟨AC, nC, cC, AM, nM, cM, AL, nL, cL, AK, nK, cK, AG, nG, cG, M, R, G, rfl, hM, hL, hKK, hG, hC, hcap⟩
end
end Go.Proofs.Ytldjgcgcbcmkfaa.K
