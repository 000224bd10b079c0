/- quorumref1.Free, EqLocks, slices.Clone. -/
import Derived.Test.YtabbceinagakfaaProg
import Derived.Below
import Derived.WalkKit
import Derived.KernelRfl
import Derived.RowKit
import Derived.RowKit3
import Derived.Tactics
import Derived.Deep.QuietTactic
import Derived.BigQuiet
import Derived.OwnWalk
import Derived.Outline
import Derived.Handy
import Derived.StillTailTactics
import Derived.Deep.RegionHeld3
import Derived.Deep.DeepCutAuto
import Derived.Deep.CutBlock
import Derived.Shelf.Abstract
import Derived.Shelf.SlSortCmp.QuietGrown
import Derived.Lib.SliceRun
import Derived.Lib.SmallJoins
import Derived.SliceStrings
import Derived.ArgAppend
import Derived.Deep.Slices
import Derived.ChangeSame
import Derived.Lib.Strings
import Derived.Test.YtabbceinagakfaaD7
namespace Go.Proofs.Ytabbceinagakfaa.K
open Go.RowKit Go.Proofs.YtabbceinagakfaaS
set_option linter.unusedSimpArgs false
set_option linter.unusedVariables false
attribute [local go_sem] s_leq s_gtr s_geq s_maxr s_minr
attribute [local go_sem] bc_alloc2 bc_alloc3 s_alloc_drewN s_setCell_drewN bc_alloc bc_drewN bc_drew

theorem filter_take {L : List LockV} {k : Nat} {p : LockV → Bool} (h : k < L.length) : (L.take (k + 1)).filter p = (L.take k).filter p ++ (if p L[k] then [L[k]] else []) := by
  rw [take_succ' h, List.filter_append]
  congr 1
  cases hp : p L[k] <;> simp [hp]
set_option maxHeartbeats 4000000 in
theorem rFree (A : Option Addr) (n c : Nat) (L : List LockV) (o : Int) (own : Bool) (w : World) (h : Lks w A n L) (hbig : n ≤ 2199023255551) : Calls Try.prog 34 #[.slice A n c, .int .i64 o, .bool own] w (RetL (L.filter fun x => (x.owner == o) == own) w) := by
  have hn := h.2.1
  have H := hid h
  have HL := hid h.1
  clear h
  have h0 := bc_refl w
  go_enter Try.func34, Try.ntmps34
  go_wp2_with fail
  go_loopw [7, 8] (fun u y wr => ∃ k : Nat, k ≤ n ∧ y = .int .i64 k ∧ OwnL wr w u ((L.take k).filter fun x => (x.owner == o) == own) ∧ BelowC w wr) (fun _ y _ => n - (intOf y).toNat)
  case atStart => exact ⟨0, by omega, rfl, own_nil _ _, h0⟩
  case round =>
    obtain ⟨k, hk, rfl, HO, HK⟩ := hrel
    rename World => wK
    rename_i u3
    have HOw := hid HO
    clear HO
    by_cases hlt : k < n
    · obtain ⟨b, of, rfl, hb0, hcs⟩ := H.out.2.2 (by omega)
      have hkl : k < L.length := by have := HL.out; omega
      have hx := (hcs k hkl).below HK hb0
      have HT := hid (filter_take (p := fun x => (x.owner == o) == own) hkl)
      have HT2 : Hid (((L.take k).filter fun x => (x.owner == o) == own).length ≤ k) := hid (Nat.le_trans (List.length_filter_le _ _) (by rw [List.length_take]; omega))
      generalize L[k] = x at hx HT
      obtain ⟨ow, tb, lo, hi, top, md⟩ := x
      have q0 := hx.c0
      have q1 := hx.c1
      have q2 := hx.c2
      have q3 := hx.c3
      have q4 := hx.c4
      have q5 := hx.c5
      simp only at q0 q1 q2 q3 q4 q5
      clear hx hcs hkl
      by_cases e : ow = o
      · subst e
        cases own
        · have HN := hid (show List.filter (fun x => (x.owner == ow) == false) (L.take (k + 1)) = List.filter (fun x => (x.owner == ow) == false) (L.take k) by rw [HT.out]; simp)
          go_wp2_with fail
          go_roundw
          case rel => exact ⟨k + 1, by omega, by go_num, by rw [HN.out]; exact HOw.out, HK⟩
          case measure => simp [intOf]; omega
        · have HN := hid (show List.filter (fun x => (x.owner == ow) == true) (L.take (k + 1)) = List.filter (fun x => (x.owner == ow) == true) (L.take k) ++ [⟨ow, tb, lo, hi, top, md⟩] by rw [HT.out]; simp)
          go_wp2_with (at_builtin; refine app22 (b := w) rfl (.tmp 24) (.tmp 29) rfl _ _ rfl (HOw.out.alloc _) ⟨wK.heap.size, 0, none⟩ 1 1 [⟨ow, tb, lo, hi, top, md⟩] rfl (one_lk wK ⟨ow, tb, lo, hi, top, md⟩) (by have := HT2.out; omega) (bc_alloc HK _) ?_; intro v' w1 hown1 HB1; have HOWN := hid hown1; clear hown1)
          go_roundw
          case rel => exact ⟨k + 1, by omega, by go_num, by rw [HN.out]; exact HOWN.out, HB1⟩
          case measure => simp [intOf]; omega
      · have eb : (ow == o) = false := by simp [e]
        cases own
        · have HN := hid (show List.filter (fun x => (x.owner == o) == false) (L.take (k + 1)) = List.filter (fun x => (x.owner == o) == false) (L.take k) ++ [⟨ow, tb, lo, hi, top, md⟩] by rw [HT.out]; simp [e])
          go_wp2_with (at_builtin; refine app22 (b := w) rfl (.tmp 24) (.tmp 29) rfl _ _ rfl (HOw.out.alloc _) ⟨wK.heap.size, 0, none⟩ 1 1 [⟨ow, tb, lo, hi, top, md⟩] rfl (one_lk wK ⟨ow, tb, lo, hi, top, md⟩) (by have := HT2.out; omega) (bc_alloc HK _) ?_; intro v' w1 hown1 HB1; have HOWN := hid hown1; clear hown1)
          go_roundw
          case rel => exact ⟨k + 1, by omega, by go_num, by rw [HN.out]; exact HOWN.out, HB1⟩
          case measure => simp [intOf]; omega
        · have HN := hid (show List.filter (fun x => (x.owner == o) == true) (L.take (k + 1)) = List.filter (fun x => (x.owner == o) == true) (L.take k) by rw [HT.out]; simp [e])
          go_wp2_with fail
          go_roundw
          case rel => exact ⟨k + 1, by omega, by go_num, by rw [HN.out]; exact HOw.out, HK⟩
          case measure => simp [intOf]; omega
    · have e : L.take k = L := by have := HL.out; exact List.take_of_length_le (by omega)
      have HOf := HOw.out
      rw [e] at HOf
      have HOg := hid HOf
      clear HOf e HOw
      go_wp2_with fail
      go_returns
      exact ⟨_, rfl, HOg.out, HK⟩
set_option maxRecDepth 100000 in
set_option maxHeartbeats 4000000 in
theorem EqLocks (A A' : Option Addr) (n n' c c' : Nat) (L : List LockV) (w : World) (h : Lks w A n L) (h' : Lks w A' n' L) : Calls Try.prog 37 #[.slice A n c, .slice A' n' c'] w (Ret (.bool true) w) := by
  obtain rfl : n = n' := h.1.trans h'.1.symm
  have hn := h.2.1
  have H := hid h
  have H' := hid h'
  have HL := hid h.1
  clear h h'
  have h0 := bc_refl w
  go_enter Try.func37, Try.ntmps37
  go_wp2_with fail
  go_loopw [5] (fun y wr => ∃ k : Nat, k ≤ n ∧ y = .int .i64 k ∧ BelowC w wr) (fun y _ => n - (intOf y).toNat)
  case atStart => exact ⟨0, by omega, rfl, h0⟩
  case round =>
    obtain ⟨k, hk, rfl, HK⟩ := hrel
    rename World => wK
    by_cases hlt : k < n
    · obtain ⟨b, of, rfl, hb0, hcs⟩ := H.out.2.2 (by omega)
      obtain ⟨b', of', rfl, hb0', hcs'⟩ := H'.out.2.2 (by omega)
      have hkl : k < L.length := by have := HL.out; omega
      have hx := hcs k hkl
      have hx' := hcs' k hkl
      generalize L[k] = x at hx hx'
      obtain ⟨ow, tb, lo, hi, top, md⟩ := x
      have qa0 := bc_cell hx.c0 hb0
      have qb0 := bc_cell hx'.c0 hb0'
      have qa1 := bc_cell hx.c1 hb0
      have qb1 := bc_cell hx'.c1 hb0'
      have qa2 := bc_cell hx.c2 hb0
      have qb2 := bc_cell hx'.c2 hb0'
      have qa3 := bc_cell hx.c3 hb0
      have qb3 := bc_cell hx'.c3 hb0'
      have qa4 := bc_cell hx.c4 hb0
      have qb4 := bc_cell hx'.c4 hb0'
      have qa5 := bc_cell hx.c5 hb0
      have qb5 := bc_cell hx'.c5 hb0'
      simp only at qa0 qb0 qa1 qb1 qa2 qb2 qa3 qb3 qa4 qb4 qa5 qb5
      clear hx hx' hcs hcs' hkl
      have i1 : (k : Int) < (n : Int) := by omega
      go_upto_region 6 with (fail)
      go_cut [25] (fun u wc => u = .bool false ∧ BelowC w wc)
      case first =>
        as_aux_lemma =>
        go_region_held3 (fun w' => BelowC w w') (repeat (with_reducible first | assumption | exact bc_refl _ | apply bc_alloc | apply bc_drewN | apply bc_drew)) (fail)
        all_goals
          go_wp2_with fail
          go_meet
          case rel => exact ⟨rfl, by with_reducible assumption⟩
      case rest =>
      clear HK
      obtain ⟨rfl, HK⟩ := hcut
      go_wp2_with fail
      go_roundw
      case rel => exact ⟨k + 1, by omega, by go_num, HK⟩
      case measure => simp [intOf]; omega
    · go_wp2_with fail
      go_returns
      exact ⟨rfl, HK⟩
set_option maxRecDepth 100000 in
set_option maxHeartbeats 4000000 in
theorem Clone (A : Option Addr) (n c : Nat) (L : List LockV) (w : World) (h : Lks w A n L) (hbig : n ≤ 2199023255551) : Calls Try.prog 56 #[.slice A n c] w (RetL L w) := by
  have hn := h.2.1
  have HL := hid h.1
  have h0 := bc_refl w
  have H := hid h
  clear h
  have q22 := fun (w : World) (a : Option Addr) (n c n' c' : Nat) => Lib.run_eql_slice_nil (P := Try.prog) w _ _ a n c n' c' Try.underlying22
  cases A with
  | none =>
    have hn0 : n = 0 := by
      apply Classical.byContradiction
      intro hne
      obtain ⟨b, o, e, _⟩ := H.out.2.2 (by omega)
      cases e
    have e : L = [] := List.eq_nil_of_length_eq_zero (by have := HL.out; omega)
    have E := hid e
    clear e hn0
    go_enter Try.func56, Try.ntmps56
    go_wp2_with fail
    go_returns
    exact ⟨_, rfl, by rw [E.out]; exact own_nil _ _, h0⟩
  | some a =>
    go_enter Try.func56, Try.ntmps56
    go_wp2_with (at_builtin; refine app22 (b := w) rfl (.tmp 5) (.tmp 6) rfl (.slice (some ⟨w.heap.size, 0, none⟩) 0 0) [] rfl (World.ownsRow_made w #[] 0 (Nat.le_refl _) (by decide) rfl) a n c L rfl (H.out.below (bc_alloc h0 _)) (by simp; omega) (bc_alloc h0 _) ?_; intro v' w1 hown1 HB1; have HOWN := hid hown1; clear hown1)
    go_returns
    exact ⟨_, rfl, HOWN.out, HB1⟩
end Go.Proofs.Ytabbceinagakfaa.K
