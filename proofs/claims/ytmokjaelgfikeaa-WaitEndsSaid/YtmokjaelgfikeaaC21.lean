/- WaitEnds. -/
import Derived.Test.YtmokjaelgfikeaaProg
import Derived.Below
import Derived.WalkKit
import Derived.KernelRfl
import Derived.RowKit
import Derived.RowKit3
import Derived.Tactics
import Derived.Deep.QuietTactic
import Derived.BigQuiet
import Derived.OwnWalk
import Derived.Outline
import Derived.Handy
import Derived.StillTailTactics
import Derived.Deep.RegionHeld3
import Derived.Deep.DeepCutAuto
import Derived.Deep.CutBlock
import Derived.Shelf.Abstract
import Derived.Shelf.SlSortCmp.QuietGrown
import Derived.Lib.SliceRun
import Derived.Sort.OwnSortedInts
import Derived.Lib.SlicesCompact
import Derived.Lib.SmallJoins
import Derived.SliceStrings
import Derived.ArgAppend
import Derived.Deep.AppendSrc
import Derived.Deep.Upon
import Derived.Deep.Slices
import Derived.ChangeSame
import Derived.Maps.OwnSet
import Derived.Maps.Range
import Derived.Maps.OwnOps
import Derived.Lib.SlKeysI
import Derived.Maps.Views
import Derived.Maps.AppendAt
import Derived.Test.YtmokjaelgfikeaaC20
namespace Go.Proofs.Ytmokjaelgfikeaa.K
open Go.RowKit
set_option linter.unusedSimpArgs false
set_option linter.unusedVariables false
attribute [local go_sem] bc_alloc2 bc_alloc3 s_alloc_drewN s_setCell_drewN bc_alloc bc_drewN bc_drew

theorem same_all {L M : List WaitV} (h : SameW L M) : allL M = allL L := by
  unfold SameW at h
  have e : ∀ K : List WaitV, allL K = (K.map (fun x => (x.o, x.f))).flatMap (fun p => p.1 :: p.2) := fun K => by
    simp [allL, List.flatMap_map]
  rw [e M, h, ← e]
theorem all_small : ∀ {L : List WaitV} (k : Nat), (∀ x ∈ L, x.f.length ≤ k) → (allL L).length ≤ L.length * (k + 1)
  | [], _, _ => by simp [allL]
  | x :: T, k, h => by
    have h1 := all_small (L := T) k (fun y hy => h y (List.mem_cons_of_mem _ hy))
    have h2 := h x List.mem_cons_self
    have e : (allL (x :: T)).length = x.f.length + 1 + (allL T).length := by simp [allL]; omega
    rw [e, List.length_cons, Nat.add_mul]
    omega
theorem wts_len {w : World} {A : Option Addr} {n : Nat} {L : List WaitV} (h : Wts w A n L) : ∀ y ∈ L, y.n = y.f.length := fun y hy => by
  obtain ⟨i, hi, rfl⟩ := List.mem_iff_getElem.1 hy
  obtain ⟨b, o, _, _, hc⟩ := h.2.2 (by rw [h.1]; omega)
  exact (hc i hi).ns.1
/-- What a round of the law has at hand. -/
structure Good (l : List Int) (M : List WaitV) : Prop where
  may : MayW M
  wf : WfW M
  aged : AgedW l M
  fl : ∀ x ∈ M, x.f.length ≤ 400
theorem Good.sum {l : List Int} {M : List WaitV} (h : Good l M) : sumF M ≤ 1000000 := by
  have := sum_le 400 h.fl
  have := h.may.2.1
  omega
theorem same_fl {w : World} {A : Option Addr} {n : Nat} {L M : List WaitV} (h : Wts w A n L) (h4 : ∀ y ∈ L, (y.n : Int) ≤ 400) (hs : SameW L M) : ∀ x ∈ M, x.f.length ≤ 400 := fun x hx => by
  obtain ⟨y, hy, _, e⟩ := same_mem hs hx
  rw [e, ← wts_len h y hy]
  have := h4 y hy
  omega
theorem same_wf {L M : List WaitV} (h : ∀ y ∈ L, wfI y.o = true ∧ ∀ z ∈ y.f, wfI z = true) (hs : SameW L M) : WfW M := fun x hx z hz => by
  obtain ⟨y, hy, _, e⟩ := same_mem hs hx
  exact (h y hy).2 z (by rw [← e]; exact hz)
theorem isO_uniq {L : List WaitV} {o : Int} {xs ys : List Int} (h : IsO L o xs) (k : IsO L o ys) : xs = ys := strict_unique h.1 k.1 (fun z => (h.2 z).trans (k.2 z).symm)
theorem circle_aged {L : List WaitV} {l : List Int} {o : Int} {xs : List Int} (ha : AgedW l L) (hx : IsO L o xs) : ∀ x ∈ xs, agedB l x = true := fun x h => by
  obtain ⟨y, hy, hz⟩ := reach_in ((hx.2 x).1 h).1
  exact (ha y hy).2 x hz
/-- append of a number to a field of a box of the call's own, in a region that draws. -/
theorem stepAppB {ops : Array Oper} {o : Oper} {a : Act} {w b : World} {K : Act → World → Prop} {Q : Exit → Act → World → Prop} {E : Prop} (hw : Region.wanted o (yielded ops a.tmps) = true)
    (s x : Operand) (ho : o.op = .call { callee := .builtin .append, args := #[s, x], argTypes := #[23, 23] }) (v : Value) (xs : List Int) (hs : a.eval s = v) (hown : OwnI w b v xs)
    (g : Nat) (z : Int) (hx : a.eval x = .slice (some ⟨g, 0, none⟩) 1 1) (hz : w.cell? ⟨g, 0, none⟩ = some (.int .i64 z)) (hn : xs.length + 1 ≤ 1000000) (hB : BelowC b w)
    (B : Nat) (v0 : Value) (hb0 : w.cell? ⟨B, 0, none⟩ = some v0) (hb1 : w.cell? ⟨B, 1, none⟩ = some v) (hf : ∀ o, w.frozen? ⟨B, o, none⟩ = false) (hne : v.ownBlock ≠ some B) (hBs : B < w.heap.size)
    (hK : ∀ v' w', OwnI w' b v' (xs ++ [z]) → v'.ownBlock ≠ some B → B < w'.heap.size → BelowC b w' → w'.cell? ⟨B, 0, none⟩ = some v0 → w'.cell? ⟨B, 1, none⟩ = some v → (∀ o, w'.frozen? ⟨B, o, none⟩ = false) → K (a.put o.dst v') w') : if Region.wanted o (yielded ops a.tmps) = true then Oper.wp Try.prog o a w K Q else E := by
  rw [if_pos hw]
  obtain ⟨i, hi, hb, hzz, hsz⟩ := inf3
  have hml : maxLen = 9223372036854775807 := rfl
  obtain ⟨v', w', hrun, h1, h2, h3, h4⟩ := run_append_own_at (P := Try.prog) w b.heap.size 23 o.type 3 i _ 1 8 Try.underlying23 hi hzz hsz hb rfl (by decide) v xs.length (xs.map (Value.int .i64)) hown ⟨g, 0, none⟩ 1 1 [.int .i64 z] rfl (fun j u hj => by
    have hjl := (List.getElem?_eq_some_iff.1 hj).1
    match j, hjl with
    | 0, _ => cases hj; exact hz) (fun u hu => by simp at hu; subst hu; rfl) (by omega) (by omega) (bc_size hB)
  have hblk := h2.block B hBs (fun e => hne e.symm)
  unfold Oper.wp
  simp [execOp, ho, resolve, invoke, builtin, hs, hx, hrun, Result.andThen]
  refine hK v' w' ?_ ?_ (Nat.lt_of_lt_of_le hBs h2.size) (bc_grown hB h2 fun k hk => (hown.lt k hk).1) ((World.cell?_of_block (a := ⟨B, 0, none⟩) hblk).trans hb0) ((World.cell?_of_block (a := ⟨B, 1, none⟩) hblk).trans hb1) (fun o => (World.frozen?_of_block (a := ⟨B, o, none⟩) hblk).trans (hf o))
  · unfold OwnI
    rw [List.map_append, List.length_append]
    exact h1
  · rcases h4 with e | e
    · rw [e]; exact hne
    · rw [e]
      simp
      omega
theorem rest_skip {L M : List WaitV} {v : Int} {t : Nat} (ht : t < L.length) (h : RestW (L.take t) v M) (e : (L[t].o == v) = true) : RestW (L.take (t + 1)) v M := by
  unfold RestW at h ⊢
  rw [List.take_add_one, List.getElem?_eq_getElem ht, Option.toList_some, List.filter_append, h]
  simp [e]
theorem rest_snoc {L M : List WaitV} {v : Int} {t : Nat} (ht : t < L.length) (h : RestW (L.take t) v M) (e : (L[t].o == v) = false) {x : WaitV} (ho : x.o = L[t].o) (hf : x.f = L[t].f.filter fun z => !(z == v)) : RestW (L.take (t + 1)) v (M ++ [x]) := by
  unfold RestW at h ⊢
  rw [List.take_add_one, List.getElem?_eq_getElem ht, Option.toList_some, List.filter_append, List.map_append, List.map_append, h]
  simp [e, ho, hf]
theorem filt_take {xs : List Int} {v : Int} {j : Nat} (h : j < xs.length) : (xs.take (j + 1)).filter (fun z => !(z == v)) = (xs.take j).filter (fun z => !(z == v)) ++ (if (xs[j] == v) = true then [] else [xs[j]]) := by
  rw [List.take_add_one, List.getElem?_eq_getElem h, Option.toList_some, List.filter_append]
  by_cases e : (xs[j] == v) = true <;> simp [e]
theorem fz_set {w : World} {g : Nat} {u : Value} (h : ∀ o, w.frozen? ⟨g, o, none⟩ = false) : ∀ o, (w.setCell ⟨g, 1, none⟩ u).frozen? ⟨g, o, none⟩ = false := fun o => by
  have := h o
  simpa [go_sem] using this
theorem any_take {xs : List Int} {p : Int → Bool} {j : Nat} (h : j < xs.length) : (xs.take (j + 1)).any p = ((xs.take j).any p || p xs[j]) := by
  rw [List.take_add_one, List.getElem?_eq_getElem h, Option.toList_some, List.any_append]
  simp
set_option maxRecDepth 100000 in
set_option maxHeartbeats 8000000 in
theorem Ends (AL AA AN : Option Addr) (nL cL nA cA nN cN : Nat) (F : Nat → LsV) (w : World) (hF : Lsts w AL nL F) (hL : nL ≤ 17592186044416) (hfit : ∀ i, i < nL → FitP (F i)) (hA : nA ≤ 17592186044416) (hN : nN ≤ 17592186044416) :
    Calls Try.prog 3 #[.agg #[.slice AL nL cL, .slice AA nA cA, .slice AN nN cN]] w (Ret (.bool true) w) := by
  have H := hid hF
  have HFIT := hid hfit
  clear hF hfit
  obtain ⟨wb, hBA, hBAA, hsz, rr0, rr1, rr2⟩ : ∃ wb : World, BelowC w wb ∧ BelowC wb (w.alloc (.cells #[.slice AL nL cL, .slice AA nA cA, .slice AN nN cN] 25)) ∧ w.heap.size + 1 ≤ wb.heap.size ∧ (∀ w', BelowC wb w' → w'.cell? ⟨w.heap.size, 0, none⟩ = some (.slice AL nL cL)) ∧ (∀ w', BelowC wb w' → w'.cell? ⟨w.heap.size, 1, none⟩ = some (.slice AA nA cA)) ∧ (∀ w', BelowC wb w' → w'.cell? ⟨w.heap.size, 2, none⟩ = some (.slice AN nN cN)) := ⟨_, bc_alloc (bc_refl _) _, bc_refl _, by simp, bc_cell (by go_simp) (by first | (simp; done) | (simp; omega)), bc_cell (by go_simp) (by first | (simp; done) | (simp; omega)), bc_cell (by go_simp) (by first | (simp; done) | (simp; omega))⟩
  have HBA := hid hBA
  clear hBA
  go_enter Try.func3, Try.ntmps3
  go_wp2_with (go_at_call 6; refine (HeavyOf AL AA AN nL cL nA cA nN cN F _ (H.out.below (bc_alloc (bc_refl _) _)) hL hA hN HFIT.out).mono ?_; rintro e v1 ⟨bb, rfl, HLEN, hb⟩; have HX : BelowC wb v1 := bc_trans hBAA hb; have HLEN := hid HLEN; clear hb; cases bb)
  rotate_left
  · go_wp2_with fail
    go_returns
    exact ⟨rfl, bc_trans HBA.out HX⟩
  have HXX := hid HX
  have HLN : Hid (∀ i, i < nL → LenP (F i) 400) := hid (HLEN.out (by simp))
  clear HX HLEN hBAA
  go_wp2_with fail
  go_loopg [3, 4] 8 (fun g u y wr => ∃ (k : Nat), k ≤ 8 ∧ g = 8 - k ∧ y = .int .i64 k ∧ Hid (OwnI wr wb u (ageEs nA k)) ∧ BelowC wb wr)
  case atStart => exact ⟨0, by omega, by omega, rfl, hid (ownI_nil _ _), HXX.out⟩
  case round =>
    obtain ⟨k, hk, rfl, rfl, HO, HK⟩ := hrel
    rename World => wK
    by_cases hlt : k < 8
    · have i1 : (k : Int) < 8 := by omega
      have d1 : decide ((k : Int) < 8) = true := decide_eq_true i1
      obtain ⟨ak, hak⟩ : ∃ ak : Int, ak = (((k * 5 + nA) % 8 : Nat) : Int) := ⟨_, rfl⟩
      have ht1 : ((k : Int) * 5 + (nA : Int)).tmod 8 = ak := by rw [hak, ← tmod_nat]; congr 1 <;> omega
      have hak0 : 0 ≤ ak := by omega
      have hak1 : ak ≤ 7 := by omega
      have HAK := hid hak
      clear hak
      go_wp2_with (at_builtin; (fail_if_success have := hcs); refine pause ?_)
      unfold Pause
      refine app23at (b := wb) rfl (.tmp 25) (.tmp 34) rfl _ (ageEs nA k) rfl (ownI_below HO.out (bc_alloc (bc_refl _) _)) wK.heap.size (1 + ak) rfl (one_int _ _) (by rw [ageEs_len]; omega) (bc_alloc HK _) ?_
      intro v6 w2 hO2 hg2 hat2 hB2
      have eak : (1 : Int) + ak = ageE nA k := by rw [HAK.out]; rfl
      rw [eak, ← ageEs_succ] at hO2
      have HO2 := hid hO2
      clear hO2 hg2 hat2
      go_wp2_with fail
      go_roundg (8 - (k + 1))
      case measure => omega
      case rel => exact ⟨k + 1, by omega, rfl, by go_num, HO2, hB2⟩
    · have d1 : decide ((k : Int) < 8) = false := decide_eq_false (by omega)
      obtain rfl : k = 8 := by omega
      obtain ⟨A3, n3, c3, rfl, hn3, -, hN3, -⟩ := ownI_form HO.out
      obtain rfl : n3 = 8 := by rw [hn3, ageEs_len]
      obtain ⟨g3, o3, rfl, -, -⟩ := hN3.2.2 (by omega)
      have HAG := hid hN3
      have hKK := bc_refl wK
      have HKW := hid HK
      clear hn3 hN3 HO HXX HK hlt
      go_wp2_with fail
      go_loopg [5, 6, 7, 8, 9, 10, 11, 12, 13, 14, 15, 16, 17, 18] (nL + 1) (fun g y _ _ _ _ _ _ _ _ _ _ _ _ _ wr => ∃ i : Nat, i ≤ nL ∧ i ≤ 5 ∧ g = nL + 1 - i ∧ y = .int .i64 i ∧ BelowC wK wr)
      case atStart => exact ⟨0, by omega, by omega, by omega, rfl, hKK⟩
      case round =>
        clear hKK
        obtain ⟨i, hi, hi5, rfl, rfl, HI⟩ := hrel
        rename World => wI
        have HX0 := bc_trans HKW.out HI
        by_cases hiL : i < nL
        rotate_left
        · have d2 : decide ((i : Int) < (nL : Int)) = false := decide_eq_false (by omega)
          go_wp2_with (go_at_call 16; refine (wakes _).mono ?_; rintro e v9 ⟨rfl, hb⟩; have HX9 : BelowC w v9 := bc_step (bc_trans HBA.out (bc_trans HKW.out HI)) hb; clear hb)
          go_returns
          exact ⟨rfl, HX9⟩
        by_cases hi55 : i < 5
        rotate_left
        · have d2 : decide ((i : Int) < (nL : Int)) = true := decide_eq_true (by omega)
          have d3 : decide ((i : Int) < 5) = false := decide_eq_false (by omega)
          go_wp2_with (go_at_call 16; refine (wakes _).mono ?_; rintro e v9 ⟨rfl, hb⟩; have HX9 : BelowC w v9 := bc_step (bc_trans HBA.out (bc_trans HKW.out HI)) hb; clear hb)
          go_returns
          exact ⟨rfl, HX9⟩
        have d2 : decide ((i : Int) < (nL : Int)) = true := decide_eq_true (by omega)
        have d3 : decide ((i : Int) < 5) = true := decide_eq_true (by omega)
        have j1 : (i : Int) < (nL : Int) := by omega
        obtain ⟨bL, oL, rfl, hbL, hcL⟩ := H.out.2 (by omega)
        have hx := hcL i hiL
        have HLI := hid (HLN.out i hiL)
        generalize F i = x at hx HLI
        have q0 := bc_cell (bc_cell hx.c0 hbL wb HBA.out) (Nat.lt_of_lt_of_le hbL (bc_size HBA.out))
        have HW := hid (hx.wt.below HBA.out)
        have HWF := hid hx.wf
        obtain ⟨xA, xn, xc, xL⟩ := x
        dsimp only at q0 HW HWF HLI
        have hx4 := HLI.out.1
        dsimp only at hx4
        have HFL := hid (fun M hs => same_fl HW.out HLI.out.2 (M := M) hs)
        clear hx hcL
        go_wp2_with (first | (go_at_call 7; refine (CopyWaits xA xn xc xL _ (HW.out.below HX0) (by omega) (fun y hy => by have := HLI.out.2 y hy; omega)).mono ?_; rintro e v2 ⟨vM, M, rfl, hO, hNs, hS, hb⟩; obtain ⟨A6, n6, c6, rfl, -, -, hWM⟩ := ownW_form hO (nsA_ns hNs); have HWM := hid hWM; have HS := hid hS; have HX2 : BelowC wK v2 := bc_trans HI hb; clear hO hNs hS hWM hb) | (go_at_call 8; refine (WaitsOf A6 n6 c6 M _ HWM.out).mono ?_; rintro e _ ⟨bw, rfl, HB, q, rfl⟩; have HB := hid HB; cases bw) | (go_at_call 10; refine (AllOf A6 n6 c6 M _ (HWM.out.below (by repeat (with_reducible first | assumption | exact bc_refl _ | apply bc_alloc | apply bc_drewN | apply bc_drew))) (by have := all_small 400 (HFL.out M HS.out); have := (HB.out (by simp)).2.1; omega)).mono ?_; rintro e v3 ⟨vA, rfl, hO, hb⟩; obtain ⟨AA2, nA2, cA2, rfl, -, -, hNA, -⟩ := ownI_form hO; have HNA := hid hNA; have HX3 : BelowC wK v3 := bc_trans (bc_drewN HX2 q) hb; have HX3b := hid hb; clear hO hNA hb) | (go_at_call 9; (have HA9 := AgesOf (some ⟨g3, o3, none⟩) AA2 8 nA2 c3 cA2 (ageEs nA 8) (allL M) _ (HAG.out.below HX3) HNA.out (ageE_unlike nA)); obtain ⟨ba, hba⟩ : ∃ ba, ba = (allL M).all (agedB (ageEs nA 8)) := ⟨_, rfl⟩; rw [← hba] at HA9; have HBA2 := hid hba; clear hba; refine HA9.mono ?_; rintro e _ ⟨rfl, q3, rfl⟩; clear HA9; cases ba))
        · go_wp2_with fail
          go_roundg (nL + 1 - (i + 1))
          case measure => omega
          case rel => exact ⟨i + 1, by omega, by omega, rfl, by go_num, bc_drewN HX2 q⟩
        · go_wp2_with fail
          go_roundg (nL + 1 - (i + 1))
          case measure => omega
          case rel => exact ⟨i + 1, by omega, by omega, rfl, by go_num, bc_drewN HX3 q3⟩
        have HG : Hid (Good (ageEs nA 8) M) := hid ⟨HB.out (by simp), same_wf HWF.out HS.out, all_aged HBA2.out.symm, HFL.out M HS.out⟩
        have HX4 := bc_drewN HX3 q3
        have HWM2 := hid (HWM.out.below (bc_drewN (bc_trans (bc_drewN (bc_refl v2) q) HX3b.out) q3))
        generalize v3.drewN q3 = wS at HX4 HWM2 ⊢
        clear HX3 HX2 HWM HB HBA2 HS HFL HWF HLI HNA HX0 hx4 q0
        go_wp2_with fail
        go_loopg [6, 7, 8, 9, 10, 11, 12, 13, 14, 15, 16, 17, 18] 8 (fun g u6 y _ _ _ _ _ _ _ _ _ _ _ wr => ∃ (o : Nat) (A : Option Addr) (n c : Nat) (M : List WaitV), o ≤ 8 ∧ g = 8 - o ∧ y = .int .i64 o ∧ u6 = .slice A n c ∧ Hid (Wts wr A n M) ∧ Hid (Good (ageEs nA 8) M) ∧ BelowC wK wr)
        case atStart => exact ⟨0, A6, n6, c6, M, by omega, by omega, rfl, rfl, HWM2, HG, HX4⟩
        case round =>
          clear HX4 HWM2 HG
          obtain ⟨o, A0, n0, c0, M0, ho, rfl, rfl, rfl, HW0, HG0, HO1⟩ := hrel
          rename World => wO
          by_cases hlo : o < 8
          rotate_left
          · have d4 : decide ((o : Int) < 8) = false := decide_eq_false (by omega)
            go_wp2_with fail
            go_roundg (nL + 1 - (i + 1))
            case measure => omega
            case rel => exact ⟨i + 1, by omega, by omega, rfl, by go_num, HO1⟩
          have d4 : decide ((o : Int) < 8) = true := decide_eq_true (by omega)
          have o1 : (o : Int) < 8 := by omega
          go_wp2_with fail
          go_loopg [6, 8, 9, 10, 11, 12, 13, 14, 15, 16, 17, 18] 10 (fun g u6 y _ _ _ _ _ _ _ _ _ _ wr => ∃ (k : Nat) (A : Option Addr) (n c : Nat) (M : List WaitV), k ≤ 9 ∧ g = 10 - k ∧ y = .int .i64 k ∧ u6 = .slice A n c ∧ Hid (Wts wr A n M) ∧ Hid (Good (ageEs nA 8) M) ∧ Hid (M.length + k ≤ 6) ∧ BelowC wK wr)
          case atStart => exact ⟨0, A0, n0, c0, M0, by omega, by omega, rfl, rfl, HW0, HG0, hid (by have := HG0.out.may.2.1; omega), HO1⟩
          case round =>
            clear HW0 HG0 HO1
            obtain ⟨k, A1, n1, c1, M1, hk9, rfl, rfl, rfl, HW1, HG1, HK1, HZ1⟩ := hrel
            rename World => wZ
            have hk6 : k ≤ 6 := by have := HK1.out; omega
            have d5 : decide ((k : Int) < 9) = true := decide_eq_true (by omega)
            have k1 : (k : Int) < 9 := by omega
            have k8 : ((k : Int) == 8) = false := by simp; omega
            go_upto_region 21 with (first | (go_at_call 11; refine (Circle A1 n1 c1 M1 o _ HW1.out HG1.out.may HG1.out.wf HG1.out.sum).mono ?_; rintro e v4 ⟨A9, n9, c9, xs, rfl, hO9, hn9, hIO, hb⟩; have HX5 : BelowC wK v4 := bc_trans HZ1 hb; (have HW4 := hid (HW1.out.below hb)); obtain ⟨_, _, _, e9, -, -, hN9, -⟩ := ownI_form hO9; cases e9; have HN9 := hid hN9; have HIO := hid hIO; have HL9 := hid hn9; clear hO9 hn9 hIO hb hN9) | (go_at_call 12; refine (Victim A1 (some ⟨g3, o3, none⟩) n1 8 c1 c3 M1 (ageEs nA 8) o _ HW4.out (HAG.out.below HX5) HG1.out.may HG1.out.wf HG1.out.sum (ageE_unlike nA) (ageE_wf nA) (by omega) HG1.out.aged).mono ?_; rintro e v5 ⟨m, E, rfl, hv, hb⟩; have HX6 : BelowC wK v5 := bc_trans HX5 hb; have HW5 := hid (HW4.out.below hb); have HN95 := hid (HN9.out.below hb); have HV : Hid ((xs = [] ∧ m = 0 ∧ E = 3) ∨ (m ∈ xs ∧ (∀ x ∈ xs, ageAt (ageEs nA 8) x ≤ ageAt (ageEs nA 8) m) ∧ E = 0)) := hid (by obtain ⟨ys, hy, hc⟩ := hv; rw [isO_uniq hy HIO.out] at hc; exact hc); clear hv hb))
            clear HW1 HW4 HN9 HX5 HZ1
            by_cases hxs : xs = []
            · obtain ⟨rfl, rfl⟩ : m = 0 ∧ E = 3 := by
                rcases HV.out with h | h
                · exact ⟨h.2.1, h.2.2⟩
                · rw [hxs] at h; cases h.1
              obtain rfl : n9 = 0 := by rw [HL9.out, hxs]; rfl
              go_wp2_with (go_at_call 13; refine (num' _ _).mono ?_; rintro ee _ ⟨rfl, rfl⟩)
              go_roundg (8 - (o + 1))
              case measure => omega
              case rel => exact ⟨o + 1, A1, n1, c1, M1, by omega, rfl, by go_num, rfl, HW5, HG1, HX6⟩
            obtain ⟨hmx, hmax, rfl⟩ : m ∈ xs ∧ (∀ x ∈ xs, ageAt (ageEs nA 8) x ≤ ageAt (ageEs nA 8) m) ∧ E = 0 := by
              rcases HV.out with h | h
              · exact absurd h.1 hxs
              · exact h
            have hn2 : 2 ≤ n9 := by
              obtain ⟨a, b, h1, h2, h3⟩ := circle_two HG1.out.may HIO.out hxs
              rw [HL9.out]; exact two_len h1 h2 h3
            have HMX := hid hmx
            have HMA := hid hmax
            have HOL := hid (older_one HG1.out.may (ageE_unlike nA) HG1.out.aged HIO.out hmx hmax)
            have HAX := hid (circle_aged HG1.out.aged HIO.out)
            have HVW := hid (vic_waits HIO.out hmx)
            have e1 : ((n9 : Int) == 0) = false := by simp; omega
            have e2 : decide ((n9 : Int) < 2) = false := decide_eq_false (by omega)
            have e3 : decide ((0 : Int) < (n9 : Int)) = true := decide_eq_true (by omega)
            have e4 : decide (0 < n9) = true := decide_eq_true (by omega)
            obtain ⟨pm, rfl⟩ : ∃ pm : Nat, m = (pm : Int) := by
              have h := circle_aged HG1.out.aged HIO.out m hmx
              simp only [agedB, Bool.and_eq_true, decide_eq_true_eq] at h
              exact ⟨m.toNat, by omega⟩
            have hpm : pm < 8 := by
              have h := circle_aged HG1.out.aged HIO.out _ hmx
              simp only [agedB, Bool.and_eq_true, decide_eq_true_eq] at h
              have := ageEs_len nA 8
              omega
            clear hmx hmax hxs HV
            go_wp2_with (first | (go_at_call 13; refine (num' _ _).mono ?_; rintro ee _ ⟨rfl, rfl⟩) | (go_at_call 14; (have HI14 := In (pm : Int) A9 n9 c9 xs _ HN95.out); obtain ⟨r, hr⟩ : ∃ r, r = idxL (fun x => x == (pm : Int)) xs := ⟨_, rfl⟩; rw [← hr] at HI14; (have d8 : decide (r < 0) = false := decide_eq_false (by have h1 := any_idxL (fun x => x == (pm : Int)) xs; rw [← hr] at h1; have h2 : xs.any (fun x => x == (pm : Int)) = true := List.any_eq_true.2 ⟨_, HMX.out, by simp⟩; rw [h2] at h1; have h3 := of_decide_eq_true h1.symm; omega)); clear hr; refine HI14.mono ?_; rintro e _ ⟨rfl, q5, rfl⟩; clear HI14))
            have HX7 := bc_drewN HX6 q5
            have HW7 := hid (HW5.out.below (bc_drewN (bc_refl _) q5))
            have HN97 := hid (HN95.out.below (bc_drewN (bc_refl _) q5))
            generalize v5.drewN q5 = wV at HX7 HW7 HN97 ⊢
            clear HX6 HW5 HN95 d8 e1 e2 e3 e4
            have hVV := bc_refl wV
            have hn99 := HN97.out.2.1
            go_wp2_with fail
            go_loopg [13, 14] n9 (fun g y13 y14 wr => ∃ (j : Nat) (bo : Bool), j ≤ n9 ∧ g = n9 - j ∧ y14 = .int .i64 j ∧ y13 = .bool bo ∧ Hid (bo = (xs.take j).any (fun x => decide (ageAt (ageEs nA 8) x < ageAt (ageEs nA 8) (pm : Int)))) ∧ BelowC wV wr)
            case atStart => exact ⟨0, false, by omega, by omega, rfl, rfl, hid (by simp), hVV⟩
            case round =>
              clear hVV
              obtain ⟨j, bo, hj, rfl, rfl, rfl, HB5, HJ⟩ := hrel
              rename World => wJ
              by_cases hjn : j < n9
              · have d6 : decide ((j : Int) < (n9 : Int)) = true := decide_eq_true (by omega)
                have j2 : (j : Int) < (n9 : Int) := by omega
                obtain ⟨b9, o9, rfl, hb9, hc9⟩ := HN97.out.2.2 (by omega)
                have hjl : j < xs.length := by have := HL9.out; omega
                have hz := bc_cell (hc9 j hjl) hb9
                have HAJ := hid (HAX.out _ (List.getElem_mem hjl))
                have HTK := hid (any_take (p := fun x => decide (ageAt (ageEs nA 8) x < ageAt (ageEs nA 8) (pm : Int))) hjl)
                generalize xs[j] = x at hz HAJ HTK
                obtain ⟨p, rfl⟩ : ∃ p : Nat, x = (p : Int) := by
                  have h := HAJ.out
                  simp only [agedB, Bool.and_eq_true, decide_eq_true_eq] at h
                  exact ⟨x.toNat, by omega⟩
                have hp8 : p < 8 := by
                  have h := HAJ.out
                  simp only [agedB, Bool.and_eq_true, decide_eq_true_eq] at h
                  have := ageEs_len nA 8
                  omega
                have p8 : (p : Int) < 8 := by omega
                have pm8 : (pm : Int) < 8 := by omega
                have dn0 : decide (0 ≤ (p : Int)) = true := decide_eq_true (by omega)
                have dn1 : decide ((p : Int) ≤ 7) = true := decide_eq_true (by omega)
                clear hc9 hjl HAJ
                go_upto_region 32 with (go_at_call 15; refine (Num _ _ _).mono ?_; rintro e v8 ⟨rfl, hb⟩; have HJ2 : BelowC wV v8 := bc_trans HJ hb; clear hb)
                obtain ⟨b3, oo3, ee3, hb3, hc3⟩ := HAG.out.2.2 (by omega)
                cases ee3
                have hc30 := bc_cell (hc3 p (by rw [ageEs_len]; exact hp8)) hb3 v8 (bc_trans HX7 HJ2)
                have hc31 := bc_cell (hc3 pm (by rw [ageEs_len]; exact hpm)) hb3 v8 (bc_trans HX7 HJ2)
                have hz8 := hz v8 HJ2
                rw [ageEs_get] at hc30 hc31
                have HAE : ∀ (z : Nat), z < 8 → ageAt (ageEs nA 8) (z : Int) = ageE nA z := fun z hz => by
                  rw [ageAt, show ((z : Int)).toNat = z by omega, getI (by rw [ageEs_len]; exact hz), ageEs_get]
                have HTK2 : Hid ((xs.take (j + 1)).any (fun x => decide (ageAt (ageEs nA 8) x < ageAt (ageEs nA 8) (pm : Int))) = (bo || decide (ageE nA p < ageE nA pm))) := hid (by rw [HTK.out, HB5.out, HAE p hp8, HAE pm hpm])
                generalize ageE nA p = ap at hc30 HTK2
                generalize ageE nA pm = am at hc31 HTK2
                clear hc3 HAE HTK HB5 hz
                cases bo
                · go_quiet (fail)
                  go_wp2_with fail
                  go_roundg (n9 - (j + 1))
                  case measure => omega
                  case rel => exact ⟨j + 1, _, by omega, rfl, by go_num, rfl, hid (by rw [HTK2.out]; simp), by repeat (with_reducible first | assumption | exact bc_refl _ | apply bc_alloc | apply bc_drewN | apply bc_drew)⟩
                · go_quiet (fail)
                  go_wp2_with fail
                  go_roundg (n9 - (j + 1))
                  case measure => omega
                  case rel => exact ⟨j + 1, _, by omega, rfl, by go_num, rfl, hid (by rw [HTK2.out]; simp), by repeat (with_reducible first | assumption | exact bc_refl _ | apply bc_alloc | apply bc_drewN | apply bc_drew)⟩
              have d6 : decide ((j : Int) < (n9 : Int)) = false := decide_eq_false (by omega)
              obtain rfl : bo = true := by
                have h := HB5.out
                rw [List.take_of_length_le (by have := HL9.out; omega)] at h
                rw [h]
                obtain ⟨x, h1, h2⟩ := HOL.out
                exact List.any_eq_true.2 ⟨x, h1, by simpa using h2⟩
              have HX8 := bc_trans HX7 HJ
              have HW8 := hid (HW7.out.below HJ)
              clear HX7 HW7 HN97 HB5 HJ HAX HOL HMA
              go_wp2_with fail
              have hJJ := bc_refl wJ
              have hn1 : n1 ≤ 6 := by have := HW8.out.1; have := HK1.out; omega
              go_loopg [15, 16, 17, 18] n1 (fun g u15 y16 _ _ wr => ∃ (t : Nat) (Mr : List WaitV), t ≤ n1 ∧ g = n1 - t ∧ y16 = .int .i64 t ∧ Hid (OwnW wr wJ u15 Mr) ∧ Hid (NsA wr u15 Mr) ∧ Hid (RestW (M1.take t) (pm : Int) Mr ∧ Mr.length ≤ t) ∧ BelowC wJ wr)
              case atStart => exact ⟨0, [], by omega, by omega, rfl, hid (ownW_nil _ _), hid (nsA_nil _ _), hid ⟨by simp [RestW], by simp⟩, hJJ⟩
              case round =>
                clear hJJ
                obtain ⟨t, Mr, ht, rfl, rfl, HOr, HNr, HRr, HR⟩ := hrel
                rename World => wR
                by_cases htn : t < n1
                rotate_left
                · have d7 : decide ((t : Int) < (n1 : Int)) = false := decide_eq_false (by omega)
                  obtain ⟨Ar, nr, cr, rfl, -, -, hWr⟩ := ownW_form HOr.out (nsA_ns HNr.out)
                  have HRW : Hid (RestW M1 (pm : Int) Mr) := hid (by have := HRr.out.1; rw [List.take_of_length_le (by have := HW8.out.1; omega)] at this; exact this)
                  have HG2 : Hid (Good (ageEs nA 8) Mr) := hid ⟨rest_may HRW.out HG1.out.may, rest_wf HRW.out HG1.out.wf, rest_aged HRW.out HG1.out.aged, rest_fl HRW.out HG1.out.fl⟩
                  have HK2 : Hid (Mr.length + (k + 1) ≤ 6) := hid (by have := rest_len HRW.out HVW.out; have := HK1.out; omega)
                  have HWr := hid hWr
                  clear hWr
                  go_wp2_with fail
                  go_roundg (10 - (k + 1))
                  case measure => omega
                  case rel => exact ⟨k + 1, Ar, nr, cr, Mr, by omega, rfl, by go_num, rfl, HWr, HG2, HK2, bc_trans HX8 HR⟩
                have d7 : decide ((t : Int) < (n1 : Int)) = true := decide_eq_true (by omega)
                have t1 : (t : Int) < (n1 : Int) := by omega
                obtain ⟨bw, ow, rfl, hbw, hcw⟩ := HW8.out.2.2 (by omega)
                have htl : t < M1.length := by have := HW8.out.1; omega
                have hx := hcw t htl
                have HSK := hid (fun e => rest_skip htl HRr.out.1 e)
                have HSN := hid (fun e x ho hf => rest_snoc htl HRr.out.1 e (x := x) ho hf)
                have HFX := hid (HG1.out.fl _ (List.getElem_mem htl))
                generalize M1[t] = x at hx HSK HSN HFX
                obtain ⟨zo, zA, zn, zc, zf⟩ := x
                have w0 := bc_cell hx.c0 hbw
                have w1 := bc_cell hx.c1 hbw
                have HNX := hid hx.ns
                dsimp only at w0 w1 HNX HSK HSN HFX
                clear hx hcw htl
                by_cases hov : (zo == (pm : Int)) = true
                · go_wp2_with fail
                  go_roundg (n1 - (t + 1))
                  case measure => omega
                  case rel => exact ⟨t + 1, Mr, by omega, rfl, by go_num, HOr, HNr, hid ⟨HSK.out hov, by have := HRr.out.2; omega⟩, HR⟩
                have hov2 : (zo == (pm : Int)) = false := by simpa using hov
                have hzn : zn ≤ 400 := by have := HNX.out.1; have := HFX.out; omega
                go_wp2_with fail
                have hBB : BelowC wR (wR.alloc (.cells #[.int .i64 zo, .slice none 0 0] 41)) := bc_alloc (bc_refl _) _
                have i0 : (wR.alloc (.cells #[.int .i64 zo, .slice none 0 0] 41)).cell? ⟨wR.heap.size, 0, none⟩ = some (.int .i64 zo) := by go_simp
                have i1 : (wR.alloc (.cells #[.int .i64 zo, .slice none 0 0] 41)).cell? ⟨wR.heap.size, 1, none⟩ = some (.slice none 0 0) := by go_simp
                have i2 : ∀ o, (wR.alloc (.cells #[.int .i64 zo, .slice none 0 0] 41)).frozen? ⟨wR.heap.size, o, none⟩ = false := by intro o; go_simp
                go_loopg [18] zn (fun g y18 wr => ∃ (q : Nat) (Au : Option Addr) (nu cu : Nat), q ≤ zn ∧ g = zn - q ∧ y18 = .int .i64 q ∧ Hid (OwnI wr wR (.slice Au nu cu) ((zf.take q).filter (fun z => !(z == (pm : Int))))) ∧ Hid ((Value.slice Au nu cu).ownBlock ≠ some wR.heap.size) ∧ Hid (wR.heap.size < wr.heap.size) ∧ Hid (wr.cell? ⟨wR.heap.size, 0, none⟩ = some (.int .i64 zo)) ∧ Hid (wr.cell? ⟨wR.heap.size, 1, none⟩ = some (.slice Au nu cu)) ∧ Hid (∀ o, wr.frozen? ⟨wR.heap.size, o, none⟩ = false) ∧ BelowC wR wr)
                case atStart => exact ⟨0, none, 0, 0, by omega, by omega, rfl, hid (by simpa using ownI_nil _ _), hid (by intro e; cases e), hid (by simp), hid i0, hid i1, hid i2, hBB⟩
                case round =>
                  clear hBB i0 i1 i2
                  obtain ⟨q, Au, nu, cu, hq, rfl, rfl, HOu, HNE, HSZ, HC0, HC1, HFZ, HQ⟩ := hrel
                  rename World => wQ
                  have HJQ := bc_trans HR HQ
                  have r0 := bc_cell HC0.out HSZ.out
                  have r1 := bc_cell HC1.out HSZ.out
                  have rf := bc_frozen HFZ.out HSZ.out
                  have hQQ := bc_refl wQ
                  by_cases hqn : q < zn
                  rotate_left
                  · have d8 : decide ((q : Int) < (zn : Int)) = false := decide_eq_false (by omega)
                    have HOf : Hid (OwnI wQ wR (.slice Au nu cu) (zf.filter (fun z => !(z == (pm : Int))))) := hid (by have := HOu.out; rw [List.take_of_length_le (by have := HNX.out.1; omega)] at this; exact this)
                    obtain ⟨_, _, _, eq1, -, -, hNu, hAu⟩ := ownI_form HOf.out
                    cases eq1
                    have HNu := hid hNu
                    have HAu := hid hAu
                    clear hNu hAu
                    have HZW := hid (one_wt wQ ⟨zo, Au, nu, cu, zf.filter (fun z => !(z == (pm : Int)))⟩ HNu.out wQ.heap.size rfl)
                    have HZA := hid (nsA_app (nsA_below HNr.out (bc_alloc HQ (.cells #[.int .i64 zo, .slice Au nu cu] 41))) (M := [⟨zo, Au, nu, cu, zf.filter (fun z => !(z == (pm : Int)))⟩]) (fun y hy => by
                      obtain rfl := List.mem_singleton.1 hy
                      exact ⟨HNu.out.below (bc_alloc (bc_refl _) _), fun a e => by
                        obtain ⟨g, e2, h3, h4⟩ := HAu.out a e
                        exact ⟨g, e2, by simp; omega, own_blk HOr.out h3⟩⟩))
                    go_wp2_with (at_builtin; (fail_if_success have := hcs); (have := HZA); refine pause ?_)
                    unfold Pause
                    refine app27 (b := wJ) rfl (.tmp 193) (.tmp 195) rfl _ Mr rfl (ownW_below HOr.out (bc_alloc HQ _)) ⟨wQ.heap.size, 0, none⟩ 1 1 [⟨zo, Au, nu, cu, zf.filter (fun z => !(z == (pm : Int)))⟩] rfl HZW.out (by have := HRr.out.2; omega) (bc_alloc (bc_trans HR HQ) _) ?_
                    intro v' w9 hO9 hg hat hB9
                    have HO9 := hid hO9
                    have HN9 := hid (nsA_step HZA.out hg hat)
                    clear hO9 hg hat
                    go_wp2_with fail
                    go_roundg (n1 - (t + 1))
                    case measure => omega
                    case rel => exact ⟨t + 1, Mr ++ [⟨zo, Au, nu, cu, zf.filter (fun z => !(z == (pm : Int)))⟩], by omega, rfl, by go_num, HO9, HN9, hid ⟨HSN.out hov2 ⟨zo, Au, nu, cu, zf.filter (fun z => !(z == (pm : Int)))⟩ rfl rfl, by rw [List.length_append]; have := HRr.out.2; simp; omega⟩, hB9⟩
                  have d8 : decide ((q : Int) < (zn : Int)) = true := decide_eq_true (by omega)
                  have q1 : (q : Int) < (zn : Int) := by omega
                  obtain ⟨bz, oz, rfl, hbz, hcz⟩ := HNX.out.2.2 (by omega)
                  have hql : q < zf.length := by have := HNX.out.1; omega
                  have wz := bc_cell (hcz q hql) hbz
                  have HFT := hid (filt_take (v := (pm : Int)) hql)
                  have HLQ : Hid (((zf.take q).filter (fun z => !(z == (pm : Int)))).length + 1 ≤ 1000000) := hid (by have h1 := List.length_filter_le (fun z => !(z == (pm : Int))) (zf.take q); have h2 := List.length_take_le q zf; omega)
                  generalize zf[q] = zq at wz HFT
                  clear hcz hql
                  by_cases hzv : (zq == (pm : Int)) = true
                  · have hz1 : (zq != (pm : Int)) = false := by simpa using hzv
                    go_wp2_with fail
                    go_roundg (zn - (q + 1))
                    case measure => omega
                    case rel => exact ⟨q + 1, Au, nu, cu, by omega, rfl, by go_num, hid (by rw [HFT.out, if_pos hzv, List.append_nil]; exact HOu.out), HNE, HSZ, HC0, HC1, HFZ, HQ⟩
                  have hz1 : (zq != (pm : Int)) = true := by simpa using hzv
                  have HZV := hid hzv
                  clear hzv
                  have w1R : ∀ w', BelowC wR w' → w'.cell? ⟨bw, ow + t * 2 + 1, none⟩ = some (.slice (some ⟨bz, oz, none⟩) zn zc) := fun w' h => w1 w' (bc_trans HR h)
                  have wzR : ∀ w', BelowC wR w' → w'.cell? ⟨bz, oz + q, none⟩ = some (.int .i64 zq) := fun w' h => wz w' (bc_trans HR h)
                  go_upto_region 45 with fail
                  clear w1 wz
                  go_region_law (refine stepAppB rfl (.tmp 181) (.tmp 190) rfl (.slice Au nu cu) ((zf.take q).filter (fun z => !(z == (pm : Int)))) rfl (ownI_below HOu.out (by repeat (with_reducible first | assumption | exact bc_refl _ | exact Nat.le_refl _ | apply bc_alloc | apply bc_drewN | apply bc_drew | apply bc_set))) wQ.heap.size zq rfl (one_int _ zq) HLQ.out (by repeat (with_reducible first | assumption | exact bc_refl _ | exact Nat.le_refl _ | apply bc_alloc | apply bc_drewN | apply bc_drew | apply bc_set)) wR.heap.size (.int .i64 zo) (r0 _ (by repeat (with_reducible first | assumption | exact bc_refl _ | exact Nat.le_refl _ | apply bc_alloc | apply bc_drewN | apply bc_drew | apply bc_set))) (r1 _ (by repeat (with_reducible first | assumption | exact bc_refl _ | exact Nat.le_refl _ | apply bc_alloc | apply bc_drewN | apply bc_drew | apply bc_set))) (rf _ (by repeat (with_reducible first | assumption | exact bc_refl _ | exact Nat.le_refl _ | apply bc_alloc | apply bc_drewN | apply bc_drew | apply bc_set))) HNE.out (Nat.lt_of_lt_of_le HSZ.out (bc_size (by repeat (with_reducible first | assumption | exact bc_refl _ | exact Nat.le_refl _ | apply bc_alloc | apply bc_drewN | apply bc_drew | apply bc_set) : BelowC wQ _))) ?_; intro va wa hOa hna hsa hBa ca0 ca1 caf; obtain ⟨Av, nv, cv, rfl, -, -, -, -⟩ := ownI_form hOa; have HOa := hid hOa; have HNa := hid hna; have HSa := hid hsa; clear hOa hna hsa)
                  all_goals
                    go_wp2_with fail
                    go_roundg (zn - (q + 1))
                    case measure => omega
                    case rel => exact ⟨q + 1, Av, nv, cv, by omega, rfl, by go_num, hid (by rw [HFT.out, if_neg HZV.out]; exact World.ownsRow.kept HOa.out (setCell_grown wa wR.heap.size 1 _) (.inr HNa.out)), HNa, hid (by simpa using HSa.out), hid (pair_set ca0 ca1).1, hid (pair_set ca0 ca1).2, hid (fz_set caf), bc_set hBa (Nat.le_refl _)⟩
end Go.Proofs.Ytmokjaelgfikeaa.K
