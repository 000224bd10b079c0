/- Locks in memory of the call's own: append, CopyLocks. -/
import Derived.Test.YtabbceinagakfaaProg
import Derived.Below
import Derived.WalkKit
import Derived.KernelRfl
import Derived.RowKit
import Derived.RowKit3
import Derived.Tactics
import Derived.Deep.QuietTactic
import Derived.BigQuiet
import Derived.OwnWalk
import Derived.Outline
import Derived.Handy
import Derived.StillTailTactics
import Derived.Deep.RegionHeld3
import Derived.Deep.DeepCutAuto
import Derived.Deep.CutBlock
import Derived.Shelf.Abstract
import Derived.Shelf.SlSortCmp.QuietGrown
import Derived.Lib.SmallJoins
import Derived.SliceStrings
import Derived.ArgAppend
import Derived.Deep.Slices
import Derived.ChangeSame
import Derived.Lib.Strings
import Derived.Test.YtabbceinagakfaaD6
namespace Go.Proofs.Ytabbceinagakfaa.K
open Go.RowKit Go.Proofs.YtabbceinagakfaaS
set_option linter.unusedSimpArgs false
set_option linter.unusedVariables false
attribute [local go_sem] s_leq s_gtr s_geq s_maxr s_minr
attribute [local go_sem] bc_alloc2 bc_alloc3 s_alloc_drewN s_setCell_drewN bc_alloc bc_drewN bc_drew

def lkCells (x : LockV) : List Value := [.int .i64 x.owner, .int .i64 x.table, .string x.lo, .string x.hi, .bool x.top, .int .i64 x.mode]
theorem flat_len (L : List LockV) : (L.flatMap lkCells).length = L.length * 6 := by
  induction L with
  | nil => rfl
  | cons x T ih => simp [List.flatMap_cons, ih, lkCells]; omega
theorem flat_get : ∀ (L : List LockV) (i : Nat) (hi : i < L.length) (r : Nat) (hr : r < 6), (L.flatMap lkCells)[i * 6 + r]? = (lkCells L[i])[r]?
  | [], i, hi, _, _ => absurd hi (by simp)
  | x :: T, 0, _, r, hr => by
    rw [List.flatMap_cons, List.getElem?_append_left (by simp [lkCells]; omega)]
    simp
  | x :: T, i + 1, hi, r, hr => by
    rw [List.flatMap_cons, List.getElem?_append_right (by simp [lkCells]; omega)]
    have := flat_get T i (by simpa using hi) r hr
    rw [show (i + 1) * 6 + r - (lkCells x).length = i * 6 + r by simp [lkCells]; omega, this]
    simp
theorem lk_cell {w : World} {b o : Nat} {x : LockV} (h : LkAt w b o x) {r : Nat} {u : Value} (hu : (lkCells x)[r]? = some u) : w.cell? ⟨b, o + r, none⟩ = some u := by
  have hr := (List.getElem?_eq_some_iff.1 hu).1
  match r, hr with
  | 0, _ => cases hu; exact h.c0
  | 1, _ => cases hu; exact h.c1
  | 2, _ => cases hu; exact h.c2
  | 3, _ => cases hu; exact h.c3
  | 4, _ => cases hu; exact h.c4
  | 5, _ => cases hu; exact h.c5
theorem lk_at {w : World} {b o : Nat} {x : LockV} (h : ∀ r, r < 6 → w.cell? ⟨b, o + r, none⟩ = (lkCells x)[r]?) : LkAt w b o x :=
  ⟨h 0 (by decide), h 1 (by decide), h 2 (by decide), h 3 (by decide), h 4 (by decide), h 5 (by decide)⟩
/-- Memory of the call's own (behind what there was in b) that reads as the list. -/
def OwnL (w b : World) (v : Value) (L : List LockV) : Prop := w.ownsRow b.heap.size 31 6 v L.length (L.flatMap lkCells)
theorem own_nil (w b : World) : OwnL w b (.slice none 0 0) [] := World.ownsRow_nil _ _ _ _
theorem bc_grown {b w w' : World} {row : Option Nat} (h : BelowC b w) (hg : w.grownBy w' row) (hrow : ∀ k, row = some k → b.heap.size ≤ k) : BelowC b w' :=
  ⟨hg.os.trans h.os, hg.tape.trans h.tape, hg.output.trans h.output, Nat.le_trans h.size hg.size, fun k hk => (hg.block k (Nat.lt_of_lt_of_le hk h.size) (fun e => by have := hrow k e.symm; omega)).trans (h.block k hk)⟩
/-- What an own slice is. -/
theorem own_form {w b : World} {v : Value} {L : List LockV} (h : OwnL w b v L) : ∃ A n c, v = .slice A n c ∧ n = L.length ∧ n ≤ c ∧ Lks w A n L ∧ (∀ a, A = some a → ∃ g, a = ⟨g, 0, none⟩ ∧ b.heap.size ≤ g ∧ g < w.heap.size ∧ ∀ o, w.frozen? ⟨g, o, none⟩ = false) := by
  have hml : maxLen = 9223372036854775807 := rfl
  have h' := h
  rcases h.2 with ⟨rfl, hn⟩ | ⟨g, cap, cur, rfl, hbg, hg, hnc, hcm, hcs, _⟩
  · exact ⟨none, 0, 0, rfl, hn.symm, Nat.le_refl _, ⟨hn.symm, by simp, fun h => absurd h (by simp)⟩, fun a e => by cases e⟩
  · have hlt := (h'.lt g rfl).2
    refine ⟨_, _, cap, rfl, rfl, hnc, ⟨rfl, by omega, fun h0 => ⟨g, 0, rfl, hlt, fun i hi => lk_at fun r hr => ?_⟩⟩, fun a e => by cases e; exact ⟨g, rfl, hbg, hlt, fun o => h'.frozenAt o⟩⟩
    have := h'.cellAt (i * 6 + r) (by omega)
    rw [flat_get L i hi r hr] at this
    rw [Nat.zero_add]
    exact this
theorem inf31 : ∃ i : TypeInfo, Try.prog.info? 31 = some i ∧ i.bytes = 64 ∧ i.zero = some (.agg #[.int .i64 0, .int .i64 0, .string ⟨#[]⟩, .string ⟨#[]⟩, .bool false, .int .i64 0]) ∧ i.size = 6 := ⟨_, rfl, rfl, rfl, rfl⟩
theorem lks_news {w : World} {A : Addr} {m : Nat} {L : List LockV} (h : Lks w (some A) m L) : ∀ j u, (L.flatMap lkCells)[j]? = some u → w.cell? (A.add j) = some u := by
  intro j u hj
  have hjl := (List.getElem?_eq_some_iff.1 hj).1
  rw [flat_len] at hjl
  obtain ⟨b, o, e, hlt, hi⟩ := h.2.2 (by have := h.1; omega)
  cases e
  have hx := hi (j / 6) (by omega)
  rw [show j = j / 6 * 6 + j % 6 by omega, flat_get L (j / 6) (by omega) (j % 6) (by omega)] at hj
  have := lk_cell hx hj
  rw [Go.WideShapes.add_plain]
  rw [show o + j = o + j / 6 * 6 + j % 6 by omega]
  exact this
theorem cells_one (L : List LockV) : ∀ u ∈ L.flatMap lkCells, u.oneCell' = true := by
  intro u hu
  obtain ⟨x, _, hx⟩ := List.mem_flatMap.1 hu
  simp only [lkCells, List.mem_cons, List.mem_nil_iff, or_false] at hx
  rcases hx with rfl | rfl | rfl | rfl | rfl | rfl <;> rfl
/-- append of locks to a slice of the call's own. -/
theorem app22 {ops : Array Oper} {rest : List Oper} {o : Oper} {a : Act} {w b : World} {Q : Exit → Act → World → Prop} (hgd : o.guard = none) (s x : Operand)
    (ho : o.op = .call { callee := .builtin .append, args := #[s, x], argTypes := #[22, 22] }) (v : Value) (L : List LockV) (hs : a.eval s = v) (hown : OwnL w b v L)
    (A : Addr) (m c : Nat) (L2 : List LockV) (hx : a.eval x = .slice (some A) m c) (hO : Lks w (some A) m L2) (hn : L.length + m ≤ 2199023255552) (hB : BelowC b w)
    (h : ∀ v' w', OwnL w' b v' (L ++ L2) → BelowC b w' → wpList Try.prog ops Q rest (a.put o.dst v') w') : wpList Try.prog ops Q (o :: rest) a w := by
  obtain ⟨i, hi, hb, hz, hsz⟩ := inf31
  have hml : maxLen = 9223372036854775807 := rfl
  refine wpList_append_own w hgd s x 22 ho b.heap.size 31 i _ 6 64 Try.underlying22 hi hz hsz hb rfl (by decide) v L.length (L.flatMap lkCells) hs hown A m c (L2.flatMap lkCells) hx (by rw [flat_len, hO.1]) (lks_news hO) (cells_one L2) (by omega) (by omega) (bc_size hB) fun v' w' h1 h2 h3 => ?_
  refine h v' w' ?_ (bc_grown hB h2 fun k hk => (hown.lt k hk).1)
  unfold OwnL
  rw [List.flatMap_append, List.length_append, ← hO.1]
  exact h1
theorem one_lk (w : World) (x : LockV) : Lks (w.alloc (.cells #[.int .i64 x.owner, .int .i64 x.table, .string x.lo, .string x.hi, .bool x.top, .int .i64 x.mode] 31)) (some ⟨w.heap.size, 0, none⟩) 1 [x] :=
  ⟨rfl, by decide, fun _ => ⟨_, 0, rfl, by simp, fun i hi => by
    obtain rfl : i = 0 := by simpa using hi
    exact ⟨by simp, by simp, by simp, by simp, by simp, by simp⟩⟩⟩
theorem take_succ' {L : List LockV} {k : Nat} (h : k < L.length) : L.take (k + 1) = L.take k ++ [L[k]] := by
  rw [List.take_add_one]
  simp [h]
/-- What a function hands back: a slice of its own that reads as L. -/
def RetL (L : List LockV) (w : World) (e : Ending) (w' : World) : Prop := ∃ v, e = .returned v ∧ OwnL w' w v L ∧ BelowC w w'
set_option maxHeartbeats 2000000 in
theorem CopyLocks (A : Option Addr) (n c : Nat) (L : List LockV) (w : World) (h : Lks w A n L) (hbig : n ≤ 2199023255551) : Calls Try.prog 17 #[.slice A n c] w (RetL L w) := by
  have hn := h.2.1
  have H := hid h
  have HL := hid h.1
  clear h
  have h0 := bc_refl w
  go_enter Try.func17, Try.ntmps17
  go_wp2_with fail
  go_loopw [3, 4] (fun u y wr => ∃ k : Nat, k ≤ n ∧ y = .int .i64 k ∧ OwnL wr w u (L.take k) ∧ BelowC w wr) (fun _ y _ => n - (intOf y).toNat)
  case atStart => exact ⟨0, by omega, rfl, own_nil _ _, h0⟩
  case round =>
    obtain ⟨k, hk, rfl, HO, HK⟩ := hrel
    rename World => wK
    rename_i u3
    by_cases hlt : k < n
    · obtain ⟨b, o, rfl, hb0, hcs⟩ := H.out.2.2 (by omega)
      have hkl : k < L.length := by have := HL.out; omega
      have hx := (hcs k hkl).below HK hb0
      have HT := hid (take_succ' hkl)
      have HT2 : Hid ((L.take k).length = k) := hid (by rw [List.length_take]; omega)
      generalize L[k] = x at hx HT
      have q0 := hx.c0
      have q1 := hx.c1
      have q2 := hx.c2
      have q3 := hx.c3
      have q4 := hx.c4
      have q5 := hx.c5
      clear hx hcs hkl
      have HOw := hid HO
      clear HO
      go_wp2_with (at_builtin; refine app22 (b := w) rfl (.tmp 11) (.tmp 16) rfl _ (L.take k) rfl (HOw.out.alloc _) ⟨wK.heap.size, 0, none⟩ 1 1 [x] rfl (one_lk wK x) (by have := HT2.out; omega) (bc_alloc HK _) ?_; intro v' w1 hown1 HB1; have HOWN := hid hown1; clear hown1)
      go_roundw
      case rel => exact ⟨k + 1, by omega, by go_num, by rw [HT.out]; exact HOWN.out, HB1⟩
      case measure => simp [intOf]; omega
    · have e : L.take k = L := by have := HL.out; exact List.take_of_length_le (by omega)
      rw [e] at HO
      have HOw := hid HO
      clear HO e
      go_wp2_with fail
      go_returns
      exact ⟨_, rfl, HOw.out, HK⟩
end Go.Proofs.Ytabbceinagakfaa.K
