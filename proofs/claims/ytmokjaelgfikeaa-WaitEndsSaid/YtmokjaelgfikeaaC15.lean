/- Copies; In, Num. -/
import Derived.Test.YtmokjaelgfikeaaProg
import Derived.Below
import Derived.WalkKit
import Derived.KernelRfl
import Derived.RowKit
import Derived.RowKit3
import Derived.Tactics
import Derived.Deep.QuietTactic
import Derived.BigQuiet
import Derived.OwnWalk
import Derived.Outline
import Derived.Handy
import Derived.StillTailTactics
import Derived.Deep.RegionHeld3
import Derived.Deep.DeepCutAuto
import Derived.Deep.CutBlock
import Derived.Shelf.Abstract
import Derived.Shelf.SlSortCmp.QuietGrown
import Derived.Lib.SliceRun
import Derived.Sort.OwnSortedInts
import Derived.Lib.SlicesCompact
import Derived.Lib.SmallJoins
import Derived.SliceStrings
import Derived.ArgAppend
import Derived.Deep.AppendSrc
import Derived.Deep.Upon
import Derived.Deep.Slices
import Derived.ChangeSame
import Derived.Maps.OwnSet
import Derived.Maps.Range
import Derived.Maps.OwnOps
import Derived.Lib.SlKeysI
import Derived.Maps.Views
import Derived.Maps.AppendAt
import Derived.Test.YtmokjaelgfikeaaC14
namespace Go.Proofs.Ytmokjaelgfikeaa.K
open Go.RowKit
set_option linter.unusedSimpArgs false
set_option linter.unusedVariables false
attribute [local go_sem] bc_alloc2 bc_alloc3 s_alloc_drewN s_setCell_drewN bc_alloc bc_drewN bc_drew

def QRet (v : Value) (w : World) (e : Ending) (w' : World) : Prop := e = .returned v ∧ ∃ m, w' = w.drewN m
set_option maxHeartbeats 2000000 in
theorem CopyNumbers (A : Option Addr) (n c : Nat) (L : List Int) (w : World) (h : Ns w A n L) (hbig : n ≤ 1000000) : Calls Try.prog 27 #[.slice A n c] w (RetI L w) := by
  have hn := h.2.1
  have H := hid h
  have HL := hid h.1
  clear h
  have h0 := bc_refl w
  go_enter Try.func27, Try.ntmps27
  go_wp2_with fail
  go_loopw [3, 4] (fun u y wr => ∃ k : Nat, k ≤ n ∧ y = .int .i64 k ∧ OwnI wr w u (L.take k) ∧ BelowC w wr) (fun _ y _ => n - (intOf y).toNat)
  case atStart => exact ⟨0, by omega, rfl, ownI_nil _ _, h0⟩
  case round =>
    obtain ⟨k, hk, rfl, HO, HK⟩ := hrel
    rename World => wK
    by_cases hlt : k < n
    · obtain ⟨b, o, rfl, hb0, hcs⟩ := H.out.2.2 (by omega)
      have hkl : k < L.length := by have := HL.out; omega
      have hx := bc_cell (hcs k hkl) hb0 _ HK
      have HT := hid (take_succ' hkl)
      have HT2 : Hid ((L.take k).length = k) := hid (by rw [List.length_take]; omega)
      generalize L[k] = x at hx HT
      clear hcs hkl
      have HOw := hid HO
      clear HO
      go_wp2_with (at_builtin; refine app23 (b := w) rfl (.tmp 11) (.tmp 16) rfl _ (L.take k) rfl (ownI_below HOw.out (bc_alloc (bc_refl _) _)) wK.heap.size x rfl (one_int wK x) (by have := HT2.out; omega) (bc_alloc HK _) ?_; intro v' w1 hown1 HB1; have HOWN := hid hown1; clear hown1)
      go_roundw
      case rel => exact ⟨k + 1, by omega, by go_num, by rw [HT.out]; exact HOWN.out, HB1⟩
      case measure => simp [intOf]; omega
    · have e : L.take k = L := by have := HL.out; exact List.take_of_length_le (by omega)
      rw [e] at HO
      have HOw := hid HO
      clear HO e
      go_wp2_with fail
      go_returns
      exact ⟨_, rfl, HOw.out, HK⟩
theorem Num (n m : Int) (w : World) : Calls Try.prog 15 #[.int .i64 n, .int .i64 m] w (Ret (.bool (decide (0 ≤ n) && decide (n ≤ m))) w) := by
  have h0 := bc_refl w
  by_cases h : 0 ≤ n
  · have d : decide (0 ≤ n) = true := decide_eq_true h
    go_enter Try.func15, Try.ntmps15
    go_wp2_with fail
    go_returns
    exact ⟨by first | rfl | simp [h], h0⟩
  · have d : decide (0 ≤ n) = false := decide_eq_false h
    go_enter Try.func15, Try.ntmps15
    go_wp2_with fail
    go_returns
    exact ⟨by first | rfl | simp [h], h0⟩
set_option maxHeartbeats 2000000 in
theorem In (z : Int) (A : Option Addr) (n c : Nat) (L : List Int) (w : World) (h : Ns w A n L) :
    Calls Try.prog 14 #[.slice A n c, .int .i64 z] w (QRet (.int .i64 (idxL (fun x => x == z) L)) w) := by
  have hn := h.2.1
  have H := hid h
  clear h
  go_enter Try.func14, Try.ntmps14
  go_wp2_with fail
  go_loopw [5] (fun v wr => ∃ k : Nat, k ≤ n ∧ v = .int .i64 k ∧ wr = w ∧ Hid (∀ j (hj : j < L.length), j < k → (L[j] == z) = false)) (fun v _ => n - (intOf v).toNat)
  case atStart => exact ⟨0, by omega, rfl, rfl, hid (fun j _ hj => absurd hj (by omega))⟩
  case round =>
    obtain ⟨k, hk, rfl, rfl, HA⟩ := hrel
    by_cases hlt : k < n
    · obtain ⟨b, o, rfl, hb0, hc⟩ := H.out.2.2 (by omega)
      have hkl : k < L.length := by have := H.out.1; omega
      have HKL := hid hkl
      have hx := hc k hkl
      generalize hy : L[k] = y at hx
      have HY := hid hy
      clear hc hy hkl
      cases hq : (y == z)
      · have HQ := hid hq
        go_wp2_with fail
        go_roundw
        case rel =>
          refine ⟨k + 1, by omega, by go_num, by first | rfl | trivial, hid fun j hjl hj => ?_⟩
          by_cases e : j = k
          · subst e; exact (congrArg (fun x => x == z) HY.out).trans HQ.out
          · exact HA.out j hjl (by omega)
        case measure => simp [intOf]; omega
      · have HQ := hid hq
        go_wp2_with fail
        go_returns
        exact ⟨ret_intq (idxL_hit HKL.out ((congrArg (fun x => x == z) HY.out).trans HQ.out) (fun j hj => HA.out j _ hj)).symm, 0, rfl⟩
    · have HN := hid (idxL_miss (p := fun x => x == z) (L := L) (fun j hj => HA.out j hj (by have := H.out.1; omega)))
      go_wp2_with fail
      go_returns
      exact ⟨ret_intq HN.out.symm, 0, rfl⟩
theorem pair_set {w1 : World} {g : Nat} {v0 v1 v' : Value} (h0 : w1.cell? ⟨g, 0, none⟩ = some v0) (h1 : w1.cell? ⟨g, 1, none⟩ = some v1) : (w1.setCell ⟨g, 1, none⟩ v').cell? ⟨g, 0, none⟩ = some v0 ∧ (w1.setCell ⟨g, 1, none⟩ v').cell? ⟨g, 1, none⟩ = some v' := by
  refine ⟨?_, World.cell?_setCell_same' _ _ _ (by rw [h1]; rfl)⟩
  rw [World.cell?_setCell_other]
  · exact h0
  · intro e
    cases e
theorem setCell_grown (w : World) (g j : Nat) (u : Value) : w.grownBy (w.setCell ⟨g, j, none⟩ u) (some g) :=
  ⟨rfl, rfl, rfl, by simp, fun k _ hk => heap_setCell_other w ⟨g, j, none⟩ k u (fun e => hk (by rw [e]))⟩
theorem ownI_set_far {w b : World} {v u : Value} {xs : List Int} {g j : Nat} (h : OwnI w b v xs) (hg : g < b.heap.size) : OwnI (w.setCell ⟨g, j, none⟩ u) b v xs := by
  refine World.ownsRow.kept h (setCell_grown w g j u) ?_
  cases e : v.ownBlock with
  | none => exact .inl rfl
  | some k =>
    have := (h.lt k e).1
    exact .inr (by simp; omega)
set_option maxHeartbeats 4000000 in
theorem CopyWait (x : WaitV) (w : World) (h : Ns w x.A x.n x.f) (hbig : x.n ≤ 1000000) : Calls Try.prog 19 #[.agg #[.int .i64 x.o, .slice x.A x.n x.c]] w fun e w' => ∃ A' n' c', e = .returned (.agg #[.int .i64 x.o, .slice A' n' c']) ∧ OwnI w' w (.slice A' n' c') x.f ∧ BelowC w w' := by
  have h0 := bc_refl w
  have H := hid h
  clear h
  obtain ⟨W, hWe⟩ : ∃ W : World, W = ((w.alloc (.cells #[.int .i64 x.o, .slice x.A x.n x.c] 41)).alloc (.cells #[.int .i64 0, .slice none 0 0] 41)).alloc (.cells #[.int .i64 x.o, .slice x.A x.n x.c] 41) := ⟨_, rfl⟩
  have hA : BelowC w W := by rw [hWe]; exact bc_alloc3 h0 _ _ _
  have hWs : W.heap.size = w.heap.size + 3 := by rw [hWe]; simp
  have a0 : W.cell? ⟨w.heap.size + 1, 0, none⟩ = some (.int .i64 0) := by rw [hWe]; go_simp
  have a1 : W.cell? ⟨w.heap.size + 1, 1, none⟩ = some (.slice none 0 0) := by rw [hWe]; go_simp
  have b0 : W.cell? ⟨w.heap.size + 1 + 1, 0, none⟩ = some (.int .i64 x.o) := by rw [hWe]; go_simp
  have b1 : W.cell? ⟨w.heap.size + 1 + 1, 1, none⟩ = some (.slice x.A x.n x.c) := by rw [hWe]; go_simp
  have f1 : ∀ o, W.frozen? ⟨w.heap.size + 1, o, none⟩ = false := by intro o; rw [hWe]; go_simp
  have f2 : ∀ o, W.frozen? ⟨w.heap.size + 1 + 1, o, none⟩ = false := by intro o; rw [hWe]; go_simp
  have HC := hid (fun v1 (hb : BelowC W v1) => (⟨bc_cell a0 (by omega) v1 hb, bc_cell a1 (by omega) v1 hb, bc_cell b0 (by omega) v1 hb, bc_cell b1 (by omega) v1 hb, bc_frozen f1 (by omega) v1 hb, bc_frozen f2 (by omega) v1 hb⟩ : v1.cell? ⟨w.heap.size + 1, 0, none⟩ = some (.int .i64 0) ∧ v1.cell? ⟨w.heap.size + 1, 1, none⟩ = some (.slice none 0 0) ∧ v1.cell? ⟨w.heap.size + 1 + 1, 0, none⟩ = some (.int .i64 x.o) ∧ v1.cell? ⟨w.heap.size + 1 + 1, 1, none⟩ = some (.slice x.A x.n x.c) ∧ (∀ o, v1.frozen? ⟨w.heap.size + 1, o, none⟩ = false) ∧ (∀ o, v1.frozen? ⟨w.heap.size + 1 + 1, o, none⟩ = false)))
  have HCall := hid (CopyNumbers x.A x.n x.c x.f W (H.out.below hA) hbig)
  have HA := hid hA
  have HWs := hid hWs
  rw [hWe] at HCall
  have HWe := hid hWe
  clear hA hWs a0 a1 b0 b1 f1 f2 hWe
  go_enter Try.func19, Try.ntmps19
  go_wp2_with (go_at_call 27; refine HCall.out.mono ?_; rintro e v1 ⟨v, rfl, ho, hb⟩; rw [← HWe.out] at ho hb; obtain ⟨A', n', c', rfl, -, -, -, -⟩ := ownI_form ho; have HO := hid ho; have HB := hid hb; obtain ⟨p0, p1, p2, p3, p4, p5⟩ := HC.out v1 hb; clear ho hb)
  obtain ⟨v2, hv2⟩ : ∃ v2 : World, v2 = ((v1.setCell ⟨w.heap.size + 1 + 1, 1, none⟩ (.slice A' n' c')).setCell ⟨w.heap.size + 1, 0, none⟩ (.int .i64 x.o)).setCell ⟨w.heap.size + 1, 1, none⟩ (.slice A' n' c') := ⟨_, rfl⟩
  have g0 : ((v1.setCell ⟨w.heap.size + 1 + 1, 1, none⟩ (.slice A' n' c')).setCell ⟨w.heap.size + 1, 0, none⟩ (.int .i64 x.o)).cell? ⟨w.heap.size + 1, 0, none⟩ = some (.int .i64 x.o) := World.cell?_setCell_same' _ _ _ (by
    rw [World.cell?_setCell_other]
    · rw [p0]; rfl
    · intro e; simp at e)
  have g1 : ((v1.setCell ⟨w.heap.size + 1 + 1, 1, none⟩ (.slice A' n' c')).setCell ⟨w.heap.size + 1, 0, none⟩ (.int .i64 x.o)).cell? ⟨w.heap.size + 1, 1, none⟩ = some (.slice none 0 0) := by
    rw [World.cell?_setCell_other, World.cell?_setCell_other]
    · exact p1
    · intro e; simp at e
    · intro e; simp at e
  have c0 : v2.cell? ⟨w.heap.size + 1, 0, none⟩ = some (.int .i64 x.o) := by rw [hv2]; exact (pair_set g0 g1).1
  have c1 : v2.cell? ⟨w.heap.size + 1, 1, none⟩ = some (.slice A' n' c') := by rw [hv2]; exact (pair_set g0 g1).2
  have HO2 : Hid (OwnI v2 w (.slice A' n' c') x.f) := hid (by rw [hv2]; exact ownI_le (ownI_set_far (ownI_set_far (ownI_set_far HO.out (by have := HWs.out; omega)) (by have := HWs.out; omega)) (by have := HWs.out; omega)) HA.out)
  have HB2 : Hid (BelowC w v2) := hid (by rw [hv2]; exact bc_set (bc_set (bc_set (bc_trans HA.out HB.out) (by omega)) (by omega)) (by omega))
  rw [← hv2]
  clear hv2 g0 g1 p0 p1 p2 p3 p4 p5
  refine bodyPost_ret (v := .agg #[.int .i64 x.o, .slice A' n' c']) (by simp [results, Try.results19, go_sem, c0, c1]) rfl ?_
  exact ⟨A', n', c', rfl, HO2.out, HB2.out⟩
/-- The same waits, whose lists lie elsewhere. -/
def SameW (L M : List WaitV) : Prop := M.map (fun x => (x.o, x.f)) = L.map (fun x => (x.o, x.f))
theorem same_snoc {L M : List WaitV} {k : Nat} (hk : k < L.length) (h : SameW (L.take k) M) {x : WaitV} (ho : x.o = L[k].o) (hf : x.f = L[k].f) : SameW (L.take (k + 1)) (M ++ [x]) := by
  unfold SameW at h ⊢
  rw [List.take_add_one, List.getElem?_eq_getElem hk, Option.toList_some, List.map_append, List.map_append, h]
  simp [ho, hf]
set_option maxRecDepth 100000 in
set_option maxHeartbeats 4000000 in
theorem CopyWaits (A : Option Addr) (n c : Nat) (L : List WaitV) (w : World) (h : Wts w A n L) (hbig : n ≤ 100000) (hf : ∀ x ∈ L, x.n ≤ 1000000) : Calls Try.prog 7 #[.slice A n c] w fun e w' => ∃ v M, e = .returned v ∧ OwnW w' w v M ∧ NsA w' v M ∧ SameW L M ∧ BelowC w w' := by
  have hn := h.2.1
  have H := hid h
  have HL := hid h.1
  have HF := hid hf
  clear h hf
  have h0 := bc_refl w
  go_enter Try.func7, Try.ntmps7
  go_wp2_with fail
  go_loopg [3, 4] n (fun g u y wr => ∃ (k : Nat) (M : List WaitV), k ≤ n ∧ g = n - k ∧ y = .int .i64 k ∧ Hid (OwnW wr w u M) ∧ Hid (NsA wr u M) ∧ Hid (SameW (L.take k) M ∧ M.length = k) ∧ BelowC w wr)
  case atStart => exact ⟨0, [], by omega, by omega, rfl, hid (ownW_nil _ _), hid (nsA_nil _ _), hid ⟨by simp [SameW], rfl⟩, h0⟩
  case round =>
    obtain ⟨k, M, hk, rfl, rfl, HO, HNs, HS, HK⟩ := hrel
    rename World => wK
    by_cases hlt : k < n
    · obtain ⟨b, o, rfl, hb0, hcs⟩ := H.out.2.2 (by omega)
      have hkl : k < L.length := by have := HL.out; omega
      have hx := (hcs k hkl).below HK hb0
      have HSN := hid (fun x ho hf => same_snoc hkl HS.out.1 (x := x) ho hf)
      have HXN := hid (HF.out _ (List.getElem_mem hkl))
      generalize L[k] = x at hx HSN HXN
      have q0 := hx.c0
      have q1 := hx.c1
      have HN := hid hx.ns
      have i1 : (k : Int) < (n : Int) := by omega
      clear hx hcs hkl
      go_wp2_with (first | (go_at_call 19; refine (CopyWait x _ HN.out HXN.out).mono ?_; rintro e v1 ⟨A1, n1, c1, rfl, ho, hb⟩; have HO1 := hid ho; have HB1 := hid hb; clear ho hb) | (at_builtin; (fail_if_success have := HP9); (have := HB1); have HP9 := hid True.intro; refine pause ?_))
      unfold Pause
      obtain ⟨_, _, _, eq1, -, -, hN1, hA1⟩ := ownI_form HO1.out
      cases eq1
      have HN1 := hid hN1
      have HA1 := hid hA1
      clear hN1 hA1
      have HZW := hid (one_wt v1 ⟨x.o, A1, n1, c1, x.f⟩ HN1.out v1.heap.size rfl)
      have HZA := hid (nsA_app (nsA_below HNs.out (bc_alloc HB1.out (.cells #[.int .i64 x.o, .slice A1 n1 c1] 41))) (M := [⟨x.o, A1, n1, c1, x.f⟩]) (fun y hy => by
        obtain rfl := List.mem_singleton.1 hy
        exact ⟨HN1.out.below (bc_alloc (bc_refl _) _), fun a e => by
          obtain ⟨g, e2, h3, h4⟩ := HA1.out a e
          exact ⟨g, e2, by simp; omega, own_blk HO.out h3⟩⟩))
      refine app27 (b := w) rfl (.tmp 11) (.tmp 17) rfl _ M rfl (ownW_below HO.out (bc_alloc HB1.out _)) ⟨v1.heap.size, 0, none⟩ 1 1 [⟨x.o, A1, n1, c1, x.f⟩] rfl HZW.out (by have := HS.out.2; omega) (bc_alloc (bc_trans HK HB1.out) _) ?_
      intro v' w1 hO1 hg hat hB1
      have HO2 := hid hO1
      have HN2 := hid (nsA_step HZA.out hg hat)
      clear hO1 hg hat
      go_wp2_with fail
      go_roundg (n - (k + 1))
      case measure => omega
      case rel => exact ⟨k + 1, M ++ [⟨x.o, A1, n1, c1, x.f⟩], by omega, rfl, by go_num, HO2, HN2, hid ⟨HSN.out ⟨x.o, A1, n1, c1, x.f⟩ rfl rfl, by rw [List.length_append, HS.out.2]; rfl⟩, hB1⟩
    · have e : L.take k = L := by have := HL.out; exact List.take_of_length_le (by omega)
      have HS1 : Hid (SameW L M) := hid (by have := HS.out.1; rw [e] at this; exact this)
      have HO1 := hid HO.out
      clear e
      go_wp2_with fail
      go_returns
      exact ⟨_, M, rfl, HO1.out, HNs.out, HS1.out, HK⟩
end Go.Proofs.Ytmokjaelgfikeaa.K
