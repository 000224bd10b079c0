/- slices.DeleteFunc on locks of the call's own. -/
import Derived.Test.YtabbceinagakfaaProg
import Derived.Below
import Derived.WalkKit
import Derived.KernelRfl
import Derived.RowKit
import Derived.RowKit3
import Derived.Tactics
import Derived.Deep.QuietTactic
import Derived.BigQuiet
import Derived.OwnWalk
import Derived.Outline
import Derived.Handy
import Derived.StillTailTactics
import Derived.Deep.RegionHeld3
import Derived.Deep.DeepCutAuto
import Derived.Deep.CutBlock
import Derived.Shelf.Abstract
import Derived.Shelf.SlSortCmp.QuietGrown
import Derived.Lib.SliceRun
import Derived.Lib.SmallJoins
import Derived.SliceStrings
import Derived.ArgAppend
import Derived.Deep.Slices
import Derived.ChangeSame
import Derived.Lib.Strings
import Derived.Test.YtabbceinagakfaaD9
namespace Go.Proofs.Ytabbceinagakfaa.K
open Go.RowKit Go.Proofs.YtabbceinagakfaaS
set_option linter.unusedSimpArgs false
set_option linter.unusedVariables false
attribute [local go_sem] s_leq s_gtr s_geq s_maxr s_minr
attribute [local go_sem] bc_alloc2 bc_alloc3 s_alloc_drewN s_setCell_drewN bc_alloc bc_drewN bc_drew

theorem idx_cases (p : LockV → Bool) (L : List LockV) : (idxL p L = -1 ∧ ∀ x ∈ L, p x = false) ∨ ∃ k, ∃ hk : k < L.length, idxL p L = k ∧ p L[k] = true ∧ ∀ j (hj : j < k), p (L[j]'(by omega)) = false := by
  cases h : L.findIdx? p with
  | none => exact .inl ⟨by simp [idxL, h], List.findIdx?_eq_none_iff.1 h⟩
  | some k =>
    obtain ⟨hk, hp, hj⟩ := List.findIdx?_eq_some_iff_getElem.1 h
    exact .inr ⟨k, hk, by simp [idxL, h], hp, fun j hjk => by simpa using hj j hjk⟩
theorem filter_pre {L : List LockV} {k : Nat} {q : LockV → Bool} (h : ∀ j (hj : j < k) (hl : j < L.length), q L[j] = true) : (L.take k).filter q = L.take k := by
  rw [List.filter_eq_self]
  intro x hx
  obtain ⟨j, hj, rfl⟩ := List.mem_iff_getElem.1 hx
  rw [List.length_take] at hj
  rw [List.getElem_take]
  exact h j (by omega) (by omega)
set_option maxRecDepth 100000 in
set_option maxHeartbeats 4000000 in
theorem DeleteFunc (p : LockV → Bool) (g0 : Nat) (lb : Array Value) (eg : ∀ args w, (callFunc g0 args).run Try.prog w = .ok (.enter g0 args) w) (v : Value) (L : List LockV) (w b : World) (h : OwnL w b v L) (hB : BelowC b w) (hp : Pred p g0 lb b) :
    Calls Try.prog 57 #[v, .func (.func g0) #[] lb] w fun e w' => ∃ v', e = .returned v' ∧ OwnL w' b v' (L.filter fun x => !p x) ∧ BelowC b w' := by
  obtain ⟨A, n, c, rfl, hn, hnc, hL, hA⟩ := own_form h
  have hml : maxLen = 9223372036854775807 := rfl
  have hn2 := hL.2.1
  have IF := hid (IndexFunc p g0 lb eg A n c L w hL (fun x W hW => hp x W (bc_trans hB hW)))
  have H := hid h
  have HP := hid hp
  have HN := hid hn
  rcases idx_cases p L with ⟨hi, hall⟩ | ⟨k, hk, hi, hpk, hlow⟩
  · have HI := hid hi
    have HF : Hid (L.filter (fun x => !p x) = L) := hid (List.filter_eq_self.2 fun x hx => by simp [hall x hx])
    have HBB := hid hB
    clear h hp hn hi hall hL hA hB
    go_enter Try.func57, Try.ntmps57
    go_wp2_with (go_at_call 54; refine IF.out.mono ?_; rintro e v1 ⟨rfl, hb⟩; rw [HI.out]; have HX := hid hb; clear hb)
    go_returns
    exact ⟨_, rfl, by rw [HF.out]; exact own_below H.out HX.out, bc_step HBB.out HX.out⟩
  · obtain ⟨g, o1, rfl, _, _⟩ := hL.2.2 (by omega)
    obtain ⟨g', hg, hbg, hgl, _⟩ := hA _ rfl
    cases hg
    have HI := hid hi
    have HBB := hid hB
    have HK : Hid ((L.take (k + 1)).filter (fun x => !p x) = L.take k) := hid (by
      rw [filter_take hk, filter_pre (fun j hj hl => by simp [hlow j hj])]
      simp [hpk])
    have hkn : k < n := by omega
    clear h hp hn hi hL hA hB hpk hlow hk
    have hk1 : ((k : Int) == -1) = false := beq_false_of_ne (by omega)
    go_enter Try.func57, Try.ntmps57
    go_wp2_with (go_at_call 54; refine IF.out.mono ?_; rintro e v1 ⟨rfl, hb⟩; rw [HI.out]; have HX := hid hb; clear hb)
    go_loopw [5, 6, 7] (fun u y _ wr => ∃ (i j : Nat) (M : List LockV), i < j ∧ j ≤ n ∧ u = .int .i64 i ∧ y = .int .i64 j ∧ OwnL wr b (.slice (some ⟨g, 0, none⟩) n c) M ∧ Hid (n = M.length ∧ M.take i = (L.take j).filter (fun x => !p x) ∧ M.drop j = L.drop j) ∧ BelowC b wr) (fun _ y _ _ => n - (intOf y).toNat)
    case atStart => exact ⟨k, k + 1, L, by omega, by omega, rfl, by go_num, own_below H.out HX.out, hid ⟨HN.out, HK.out.symm, rfl⟩, bc_step HBB.out HX.out⟩
    case round =>
      obtain ⟨i, j, M, hij, hj, rfl, rfl, HO, HM, HW⟩ := hrel
      rename World => wJ
      clear HX HK HI IF
      have HOw := hid HO
      clear HO
      by_cases hlt : j < n
      · have hjm : j < M.length := by have := HM.out.1; omega
        have hjl : j < L.length := by have := HN.out; omega
        have hx := own_at HOw.out HM.out.1 hjm
        have HE : Hid (M[j] = L[j]) := hid (by
          have e := congrArg (fun Z => Z[0]?) HM.out.2.2
          simp only [List.getElem?_drop, Nat.add_zero] at e
          rw [List.getElem?_eq_getElem hjm, List.getElem?_eq_getElem hjl] at e
          exact Option.some.inj e)
        have HF : Hid ((L.take (j + 1)).filter (fun x => !p x) = (L.take j).filter (fun x => !p x) ++ (if (!p M[j]) = true then [M[j]] else [])) := hid (by rw [filter_take hjl, HE.out])
        have HD : Hid (M.drop (j + 1) = L.drop (j + 1)) := hid (by
          have e := congrArg (List.drop 1) HM.out.2.2
          rw [List.drop_drop, List.drop_drop] at e
          exact e)
        have hil : i < M.length := by omega
        have HIL := hid hil
        clear hil
        generalize M[j] = x at hx HF HE
        have q0 := hx.c0
        have q1 := hx.c1
        have q2 := hx.c2
        have q3 := hx.c3
        have q4 := hx.c4
        have q5 := hx.c5
        clear hx hjm hjl HE
        obtain ⟨wb, hA, hAA, hA2, r0, r1, r2, r3, r4, r5⟩ : ∃ wb : World, BelowC wJ wb ∧ BelowC wb (wJ.alloc (.cells #[.int .i64 x.owner, .int .i64 x.table, .string x.lo, .string x.hi, .bool x.top, .int .i64 x.mode] 31)) ∧ BelowC wJ (wJ.alloc (.cells #[.int .i64 x.owner, .int .i64 x.table, .string x.lo, .string x.hi, .bool x.top, .int .i64 x.mode] 31)) ∧ (∀ w', BelowC wb w' → w'.cell? ⟨wJ.heap.size, 0, none⟩ = some (.int .i64 x.owner)) ∧ (∀ w', BelowC wb w' → w'.cell? ⟨wJ.heap.size, 1, none⟩ = some (.int .i64 x.table)) ∧ (∀ w', BelowC wb w' → w'.cell? ⟨wJ.heap.size, 2, none⟩ = some (.string x.lo)) ∧ (∀ w', BelowC wb w' → w'.cell? ⟨wJ.heap.size, 3, none⟩ = some (.string x.hi)) ∧ (∀ w', BelowC wb w' → w'.cell? ⟨wJ.heap.size, 4, none⟩ = some (.bool x.top)) ∧ (∀ w', BelowC wb w' → w'.cell? ⟨wJ.heap.size, 5, none⟩ = some (.int .i64 x.mode)) := ⟨_, bc_alloc (bc_refl _) _, bc_refl _, bc_alloc (bc_refl _) _, bc_cell (by go_simp) (by simp), bc_cell (by go_simp) (by simp), bc_cell (by go_simp) (by simp), bc_cell (by go_simp) (by simp), bc_cell (by go_simp) (by simp), bc_cell (by go_simp) (by simp)⟩
        have HA2 := hid hA2
        have HAA := hid hAA
        clear hA2
        have hcall := HP.out x (wJ.alloc (.cells #[.int .i64 x.owner, .int .i64 x.table, .string x.lo, .string x.hi, .bool x.top, .int .i64 x.mode] 31)) (bc_trans HW HA2.out)
        simp only [LockV.val] at hcall
        have i1 : (i : Int) < (n : Int) := by omega
        rcases (show p x = true ∨ p x = false by cases p x <;> simp) with hq | hq
        · rw [hq] at hcall
          have HC := hid hcall
          have HQ := hid hq
          clear hcall hq
          go_wp2_with (go_at_fn g0; refine HC.out.mono ?_; rintro e v1 ⟨rfl, hb⟩; have HX : BelowC wJ v1 := bc_step HA2.out hb; clear hb)
          go_roundw
          case rel => exact ⟨i, j + 1, M, by omega, by omega, rfl, by go_num, own_below HOw.out HX, hid ⟨HM.out.1, by rw [HF.out, HQ.out, HM.out.2.1]; simp, HD.out⟩, bc_trans HW HX⟩
          case measure => simp [intOf]; omega
        · rw [hq] at hcall
          have HC := hid hcall
          have HQ := hid hq
          clear hcall hq
          go_wp2_with (go_at_fn g0; refine HC.out.mono ?_; rintro e v1 ⟨rfl, hb⟩; have HX : BelowC wJ v1 := bc_step HA2.out hb; have HY : BelowC wb v1 := bc_step HAA.out hb; clear hb; have HO1 := hid (own_below HOw.out HX); have hy := own_at HO1.out HM.out.1 HIL.out; have s0 := hy.c0; have s1 := hy.c1; have s2 := hy.c2; have s3 := hy.c3; have s4 := hy.c4; have s5 := hy.c5; clear hy; have fz := own_fz HO1.out HM.out.1)
          go_roundw
          case rel =>
            refine ⟨i + 1, j + 1, M.set i x, by omega, by omega, by go_num, by go_num, own_store x HO1.out HM.out.1 HIL.out, hid ⟨by rw [List.length_set]; exact HM.out.1, ?_, ?_⟩, ?_⟩
            · rw [HF.out, HQ.out, ← HM.out.2.1, take_succ' (by rw [List.length_set]; exact HIL.out), List.take_set_of_le (Nat.le_refl _)]
              simp
            · rw [List.drop_set_of_lt (by omega)]
              exact HD.out
            · exact bc_set (bc_set (bc_set (bc_set (bc_set (bc_set (bc_trans HW HX) hbg) hbg) hbg) hbg) hbg) hbg
          case measure => simp [intOf]; omega
      · have ej : j = n := by omega
        have hin : i < n := by omega
        have hcl := fun ty => run_clear6 wJ ty g (i * 6) (n - i) (c - i) (by omega) (fun q hq => own_some HOw.out HM.out.1 (by omega)) (fun q hq => own_fz HOw.out HM.out.1 _)
        obtain ⟨xs', hx', ht'⟩ := own_setCells (zs6 (n - i)) (i * 6) wJ (M.flatMap lkCells) (by have := HOw.out; unfold OwnL at this; rw [← HM.out.1] at this; exact this)
        have HFin : Hid (OwnL (wJ.setCells g (i * 6) (zs6 (n - i))) b (.slice (some ⟨g, 0, none⟩) i c) (L.filter fun x => !p x)) := hid (own_cut hx' (by omega) (by
          have e := congrArg List.length HM.out.2.1
          rw [List.length_take, ← HM.out.1, Nat.min_eq_left (by omega), ej, List.take_of_length_le (by have := HN.out; omega)] at e
          exact e) (by
          rw [ht', flat_take, HM.out.2.1, ej, List.take_of_length_le (by have := HN.out; omega)]))
        have hic : i ≤ c := by omega
        have i2 : (i : Int) ≤ (n : Int) := by omega
        have i3 : (i : Int) ≤ (c : Int) := by omega
        clear hx' ht' ej
        go_wp2_with fail
        go_returns
        exact ⟨_, rfl, HFin.out, bc_setCells hbg _ _ _ HW⟩
end Go.Proofs.Ytabbceinagakfaa.K
