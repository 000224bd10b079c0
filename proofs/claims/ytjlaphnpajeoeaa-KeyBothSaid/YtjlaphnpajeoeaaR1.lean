/- A call's argument of the laws of layers 1 and 2, opened. -/
import Derived.Test.YtjlaphnpajeoeaaH1
import Derived.Lib.SmallJoins
import Derived.SliceStrings
import Derived.Deep.Slices
import Derived.Deep.Fields
import Derived.ChangeSame
import Derived.ProofKit
import Derived.OpenShut
namespace Go.Proofs.Ytjlaphnpajeoeaa.K
open Go.ChangeShapes Go.WideShapes Go.Deep Go.RowKit Go.Joins
set_option linter.unusedVariables false
section
variable {H : Type} {enc : TypeId × Value → H} {P : Program} {w : World} {base : Nat} {spare : Nat → Bool} {held : Bool}
theorem open_slice_fields {t e : TypeId} {fs : Array Field} {fuel : Nat} {cs : List Value} {x : DataW H × List MemPlace} (ht : P.underlying t = some (.slice e)) (he : P.underlying e = some (.struct fs))
    (hone : oneCellFields P fs = true) (hC : P.cellsOf e = fs.size) (h : DataW.trod enc P w base spare held fuel t cs = some x) :
    (cs = [.slice none 0 0] ∧ x = (.nil, [])) ∨
    ∃ (a : Addr) (len cap m : Nat) (D : Nat → DataW H) (Pl : Nat → List MemPlace), cs = [.slice (some a) len cap] ∧ base ≤ a.block ∧ len ≤ cap ∧ cap ≤ maxLen ∧ m = (if spare a.block then cap else len) ∧
      x = (.slice ((List.range len).map D) ((List.range (m - len)).map fun j => D (len + j)), MemPlace.row a (m * fs.size) ++ (List.range m).flatMap Pl) ∧
      ∀ i, i < m → ∃ (ys : List (DataW H × List MemPlace)) (n : Nat), D i = .agg (ys.map (·.1)) ∧ Pl i = ys.flatMap (·.2) ∧ ys.length = fs.size ∧
        ∀ (j : Nat) (f : Field), fs[j]? = some f → ∃ (v : Value) (y : DataW H × List MemPlace), w.cell? (a.add (i * fs.size + j)) = some v ∧ ys[j]? = some y ∧ DataW.trod enc P w base spare held n f.type [v] = some y := by
  rcases open_slice ht h with h0 | ⟨a, len, cap, m, n, D, Pl, hcs, hb, hl, hm, hmm, hx, hi⟩
  · exact .inl h0
  · refine .inr ⟨a, len, cap, m, D, Pl, hcs, hb, hl, hm, hmm, by rw [hC] at hx; exact hx, fun i him => ?_⟩
    obtain ⟨cs', hc, ht'⟩ := hi i him
    rw [hC] at hc
    obtain ⟨ys, n', hn', hy, hlen, hyl, hf⟩ := DataW.trod_struct he ht'
    obtain ⟨_, hcl, hat⟩ := World.cells?_some hc
    simp only [Prod.mk.injEq] at hy
    refine ⟨ys, n', hy.1, hy.2, hyl, fun j f hj => ?_⟩
    obtain ⟨ho, hk⟩ := hone_of hone j f hj
    have hjl : j < fs.size := (Array.getElem?_eq_some_iff.1 hj).1
    have hcell := hat j hjl
    have hv : cs'[j]? = some (cs'[j]'(by omega)) := List.getElem?_eq_getElem (by omega)
    have h1 := hf j f hj
    rw [ho, hk] at h1
    have hone' : (cs'.drop j).take 1 = [cs'[j]'(by omega)] := by
      rw [List.drop_eq_getElem_cons (by omega)]
      rfl
    rw [hone'] at h1
    have hys : ys[j]? = some (ys[j]'(by omega)) := List.getElem?_eq_getElem (by omega)
    refine ⟨_, _, ?_, hys, h1.trans hys⟩
    rw [← Go.Deep.add_add, hcell, hv]
end
theorem plain_addr {w : World} {a : Addr} {v : Value} (h : w.cell? (a.add 0) = some v) : ∃ b o, a = ⟨b, o, none⟩ := by
  obtain ⟨b, off, spot⟩ := a
  have hspot : spot = none := World.cell?_spot h
  subst hspot
  exact ⟨b, off, rfl⟩
theorem cell_lt {w : World} {b o : Nat} {v : Value} (h : w.cell? ⟨b, o, none⟩ = some v) : b < w.heap.size := by
  apply Classical.byContradiction
  intro hn
  have : w.heap[b]? = none := Array.getElem?_eq_none (by omega)
  simp [World.cell?, this] at h
theorem strs_of {H : Type} {enc : TypeId × Value → H} {W : World} {base : Nat} {spare : Nat → Bool} {held : Bool} {t e : TypeId} {m : Nat} {v : Value} {y : DataW H × List MemPlace} (ht : Try.prog.underlying t = some (.slice e)) (he : Try.prog.underlying e = some .string) (hc : Try.prog.cellsOf e = 1)
    (h : DataW.trod enc Try.prog W base spare held m t [v] = some y) : ∃ A n c S, v = .slice A n c ∧ Strs W A n S := by
  rcases open_strings ht he hc h with ⟨hcs, _⟩ | ⟨a, len, cap, ss, hcs, _, hl, hm, hz, _, hcell, _⟩
  · simp at hcs
    exact ⟨none, 0, 0, fun _ => ByteArray.empty, hcs, by simp, fun h => absurd h (by simp)⟩
  · simp at hcs
    have hll : len ≤ ss.length := by rw [hz]; split <;> omega
    refine ⟨some a, len, cap, fun i => ss.getD i ByteArray.empty, hcs, ?_, fun h0 => ?_⟩
    · have : maxLen = 9223372036854775807 := rfl
      omega
    · obtain ⟨b, o, rfl⟩ := plain_addr (hcell 0 (by omega))
      have hall : ∀ i, i < len → W.cell? ⟨b, o + i, none⟩ = some (.string (ss.getD i ByteArray.empty)) := fun i hi => by
        rw [← Go.WideShapes.add_plain]; exact hcell i (by omega)
      exact ⟨b, o, rfl, cell_lt (hall 0 h0), hall⟩
theorem rngs_of {H : Type} {enc : TypeId × Value → H} {W : World} {base : Nat} {spare : Nat → Bool} {held : Bool} {m : Nat} {v : Value} {y : DataW H × List MemPlace}
    (h : DataW.trod enc Try.prog W base spare held m 23 [v] = some y) : ∃ A n c R, v = .slice A n c ∧ Rngs W A n R := by
  rcases open_slice_fields (fs := _) Try.underlying23 Try.underlying33 (by kernel_rfl) (by kernel_rfl) h with ⟨hcs, _⟩ | ⟨a, len, cap, q, D, Pl, hcs, _, hl, hm, hq, _, hf⟩
  · simp at hcs
    exact ⟨none, 0, 0, fun _ => ⟨ByteArray.empty, ByteArray.empty, false⟩, hcs, by simp, fun h => absurd h (by simp)⟩
  · simp at hcs
    have hll : len ≤ q := by rw [hq]; split <;> omega
    have each : ∀ i, i < len → ∃ r : Rng, W.cell? (a.add (i * 3)) = some (.string r.lo) ∧ W.cell? (a.add (i * 3 + 1)) = some (.string r.hi) ∧ W.cell? (a.add (i * 3 + 2)) = some (.bool r.top) := by
      intro i hi
      obtain ⟨ys, n, _, _, _, hj⟩ := hf i (by omega)
      obtain ⟨v0, y0, hc0, _, ht0⟩ := hj 0 _ rfl
      obtain ⟨v1, y1, hc1, _, ht1⟩ := hj 1 _ rfl
      obtain ⟨v2, y2, hc2, _, ht2⟩ := hj 2 _ rfl
      obtain ⟨s0, e0, _⟩ := DataW.trod_string Try.underlying9 ht0
      obtain ⟨s1, e1, _⟩ := DataW.trod_string Try.underlying9 ht1
      obtain ⟨s2, e2, _⟩ := DataW.trod_bool Try.underlying4 ht2
      simp at e0 e1 e2
      subst e0 e1 e2
      exact ⟨⟨s0, s1, s2⟩, hc0, hc1, hc2⟩
    obtain ⟨R, hR⟩ : ∃ R : Nat → Rng, ∀ i, i < len → W.cell? (a.add (i * 3)) = some (.string (R i).lo) ∧ W.cell? (a.add (i * 3 + 1)) = some (.string (R i).hi) ∧ W.cell? (a.add (i * 3 + 2)) = some (.bool (R i).top) := by
      classical
      refine ⟨fun i => if hi : i < len then Classical.choose (each i hi) else ⟨ByteArray.empty, ByteArray.empty, false⟩, fun i hi => ?_⟩
      simp only [dif_pos hi]
      exact Classical.choose_spec (each i hi)
    refine ⟨some a, len, cap, R, hcs, ?_, fun h0 => ?_⟩
    · have : maxLen = 9223372036854775807 := rfl
      omega
    · obtain ⟨b, o, rfl⟩ := plain_addr (by simpa using (hR 0 (by omega)).1)
      have hall : ∀ i, i < len → W.cell? ⟨b, o + i * 3, none⟩ = some (.string (R i).lo) ∧ W.cell? ⟨b, o + i * 3 + 1, none⟩ = some (.string (R i).hi) ∧ W.cell? ⟨b, o + i * 3 + 2, none⟩ = some (.bool (R i).top) := fun i hi => by
        have := hR i hi
        rw [Go.WideShapes.add_plain, Go.WideShapes.add_plain, Go.WideShapes.add_plain] at this
        exact this
      exact ⟨b, o, rfl, cell_lt (hall 0 h0).1, hall⟩
theorem ask_open {H : Type} {enc : TypeId × Value → H} {W : World} {base b0 : Nat} {spare : Nat → Bool} {held : Bool} {v : Value} {d : DataW H} {p : List MemPlace} (hv : Value.okWide Try.prog W .any b0 25 v) (h : DataW.Trod enc Try.prog W base spare held 25 v d p) :
    ∃ A n c A' n' c' S R, v = .agg #[.slice A n c, .slice A' n' c'] ∧ Strs W A n S ∧ Rngs W A' n' R := by
  obtain ⟨v0, v1, y0, y1, m, rfl, _, _, h0, h1⟩ := open_agg2 Try.underlying25 (by kernel_rfl) (by kernel_rfl) hv h
  obtain ⟨A, n, c, S, rfl, hS⟩ := strs_of Try.underlying22 Try.underlying9 (by kernel_rfl) h0
  obtain ⟨A', n', c', R, rfl, hR⟩ := rngs_of h1
  exact ⟨A, n, c, A', n', c', S, R, rfl, hS, hR⟩
end Go.Proofs.Ytjlaphnpajeoeaa.K
