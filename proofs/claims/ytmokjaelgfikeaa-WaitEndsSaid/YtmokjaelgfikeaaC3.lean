/- slices' functions at numbers. -/
import Derived.Test.YtmokjaelgfikeaaProg
import Derived.Below
import Derived.WalkKit
import Derived.KernelRfl
import Derived.RowKit
import Derived.RowKit3
import Derived.Tactics
import Derived.Deep.QuietTactic
import Derived.BigQuiet
import Derived.OwnWalk
import Derived.Outline
import Derived.Handy
import Derived.StillTailTactics
import Derived.Deep.RegionHeld3
import Derived.Deep.DeepCutAuto
import Derived.Deep.CutBlock
import Derived.Shelf.Abstract
import Derived.Shelf.SlSortCmp.QuietGrown
import Derived.Lib.SliceRun
import Derived.Sort.OwnSortedInts
import Derived.Lib.SlicesCompact
import Derived.Lib.SmallJoins
import Derived.SliceStrings
import Derived.ArgAppend
import Derived.Deep.AppendSrc
import Derived.Deep.Upon
import Derived.Deep.Slices
import Derived.ChangeSame
import Derived.Maps.OwnSet
import Derived.Maps.Range
import Derived.Maps.OwnOps
import Derived.Lib.SlKeysI
import Derived.Maps.Views
import Derived.Test.YtmokjaelgfikeaaC2
namespace Go.Proofs.Ytmokjaelgfikeaa.K
open Go.RowKit
set_option linter.unusedSimpArgs false
set_option linter.unusedVariables false
attribute [local go_sem] bc_alloc2 bc_alloc3 s_alloc_drewN s_setCell_drewN bc_alloc bc_drewN bc_drew
/-- The first place where p holds; -1. -/
def idxL (p : Int → Bool) (L : List Int) : Int := match L.findIdx? p with | some i => i | none => -1
theorem idxL_hit {p : Int → Bool} {L : List Int} {k : Nat} (hk : k < L.length) (hp : p L[k] = true) (h : ∀ j (hj : j < k), p (L[j]'(by omega)) = false) : idxL p L = k := by
  have : L.findIdx? p = some k := by
    rw [List.findIdx?_eq_some_iff_getElem]
    exact ⟨hk, hp, fun j hj => by simp [h j hj]⟩
  simp [idxL, this]
theorem idxL_miss {p : Int → Bool} {L : List Int} (h : ∀ j (hj : j < L.length), p L[j] = false) : idxL p L = -1 := by
  have : L.findIdx? p = none := by
    rw [List.findIdx?_eq_none_iff]
    intro x hx
    obtain ⟨j, hj, rfl⟩ := List.mem_iff_getElem.1 hx
    exact h j hj
  simp [idxL, this]
theorem any_idxL (p : Int → Bool) (L : List Int) : L.any p = decide (0 ≤ idxL p L) := by
  cases h : L.findIdx? p with
  | none =>
    have h2 := List.findIdx?_eq_none_iff.1 h
    have : L.any p = false := by rw [List.any_eq_false]; intro x hx; simp [h2 x hx]
    simp [idxL, h, this]
  | some k =>
    obtain ⟨hk, hp, _⟩ := List.findIdx?_eq_some_iff_getElem.1 h
    have : L.any p = true := List.any_eq_true.2 ⟨L[k], List.getElem_mem hk, hp⟩
    simp [idxL, h, this]
theorem idxL_le (p : Int → Bool) (L : List Int) : -1 ≤ idxL p L ∧ idxL p L < L.length + 1 := by
  cases h : L.findIdx? p with
  | none => simp [idxL, h]; omega
  | some k =>
    obtain ⟨hk, _, _⟩ := List.findIdx?_eq_some_iff_getElem.1 h
    simp [idxL, h]; omega
theorem idx_cases (p : Int → Bool) (L : List Int) : (idxL p L = -1 ∧ ∀ x ∈ L, p x = false) ∨ ∃ k, ∃ hk : k < L.length, idxL p L = k ∧ p L[k] = true ∧ ∀ j (hj : j < k), p (L[j]'(by omega)) = false := by
  cases h : L.findIdx? p with
  | none => exact .inl ⟨by simp [idxL, h], List.findIdx?_eq_none_iff.1 h⟩
  | some k =>
    obtain ⟨hk, hp, hj⟩ := List.findIdx?_eq_some_iff_getElem.1 h
    exact .inr ⟨k, hk, by simp [idxL, h], hp, fun j hjk => by simpa using hj j hjk⟩
theorem filter_pre {L : List Int} {k : Nat} {q : Int → Bool} (h : ∀ j (hj : j < k) (hl : j < L.length), q L[j] = true) : (L.take k).filter q = L.take k := by
  rw [List.filter_eq_self]
  intro x hx
  obtain ⟨j, hj, rfl⟩ := List.mem_iff_getElem.1 hx
  rw [List.length_take] at hj
  rw [List.getElem_take]
  exact h j (by omega) (by omega)
theorem filter_take {L : List Int} {k : Nat} {p : Int → Bool} (h : k < L.length) : (L.take (k + 1)).filter p = (L.take k).filter p ++ (if p L[k] then [L[k]] else []) := by
  rw [take_succ' h, List.filter_append]
  congr 1
  cases hp : p L[k] <;> simp [hp]

/-- A function on numbers that hands back a bool. -/
def Pred (p : Int → Bool) (g : Nat) (lb : Array Value) (w : World) : Prop := ∀ (x : Int) (W : World), BelowC w W → Calls Try.prog g (#[.int .i64 x] ++ lb) W (Ret (.bool (p x)) W)
theorem bc_setCells {b : World} {g : Nat} (hg : b.heap.size ≤ g) : ∀ (vs : List Value) (o : Nat) (w : World), BelowC b w → BelowC b (w.setCells g o vs)
  | [], _, _, h => h
  | v :: r, o, w, h => bc_setCells hg r (o + 1) _ (bc_set h hg)
set_option maxHeartbeats 2000000 in
theorem IndexFunc (p : Int → Bool) (g : Nat) (lb : Array Value) (eg : ∀ args w, (callFunc g args).run Try.prog w = .ok (.enter g args) w) (A : Option Addr) (n c : Nat) (L : List Int) (w : World) (h : Ns w A n L) (hp : Pred p g lb w) :
    Calls Try.prog 41 #[.slice A n c, .func (.func g) #[] lb] w (Ret (.int .i64 (idxL p L)) w) := by
  have hn := h.2.1
  have H := hid h
  have HP := hid hp
  clear h hp
  go_enter Try.func41, Try.ntmps41
  go_wp2_with fail
  go_loopw [5, 8] (fun _ v wr => ∃ k : Nat, k ≤ n ∧ v = .int .i64 k ∧ BelowC w wr ∧ Hid (∀ j (hj : j < L.length), j < k → p L[j] = false)) (fun _ v _ => n - (intOf v).toNat)
  case atStart => exact ⟨0, by omega, rfl, bc_refl w, hid (fun j _ hj => absurd hj (by omega))⟩
  case round =>
    obtain ⟨k, hk, rfl, HK, HA⟩ := hrel
    rename World => wK
    by_cases hlt : k < n
    · obtain ⟨b, o, rfl, hb0, hc⟩ := H.out.2.2 (by omega)
      have hkl : k < L.length := by have := H.out.1; omega
      have HKL := hid hkl
      have hx := bc_cell (hc k hkl) hb0 _ HK
      generalize hy : L[k] = y at hx
      have HY := hid hy
      clear hc hy hkl
      have hcall := HP.out y wK HK
      cases hq : p y with
      | true =>
        rw [hq] at hcall
        go_wp2_with (go_at_fn g; refine hcall.mono ?_; rintro e v1 ⟨rfl, hb⟩)
        go_returns
        exact ⟨ret_intq (idxL_hit HKL.out ((congrArg p HY.out).trans hq) (fun j hj => HA.out j _ hj)).symm, bc_step HK hb⟩
      | false =>
        rw [hq] at hcall
        go_wp2_with (go_at_fn g; refine hcall.mono ?_; rintro e v1 ⟨rfl, hb⟩)
        go_roundw
        case rel =>
          refine ⟨k + 1, by omega, by go_num, bc_step HK hb, hid fun j hjl hj => ?_⟩
          by_cases e : j = k
          · subst e; exact (congrArg p HY.out).trans hq
          · exact HA.out j hjl (by omega)
        case measure => simp [intOf]; omega
    · have HN := hid (idxL_miss (p := p) (L := L) (fun j hj => HA.out j hj (by have := H.out.1; omega)))
      go_wp2_with fail
      go_returns
      exact ⟨ret_intq HN.out.symm, HK⟩
set_option maxHeartbeats 2000000 in
theorem ContainsFunc (p : Int → Bool) (g : Nat) (lb : Array Value) (eg : ∀ args w, (callFunc g args).run Try.prog w = .ok (.enter g args) w) (A : Option Addr) (n c : Nat) (L : List Int) (w : World) (h : Ns w A n L) (hp : Pred p g lb w) :
    Calls Try.prog 32 #[.slice A n c, .func (.func g) #[] lb] w (Ret (.bool (L.any p)) w) := by
  rw [any_idxL]
  go_enter Try.func32, Try.ntmps32
  go_wp2_with (go_at_call 41; refine (IndexFunc p g lb eg A n c L _ h hp).mono ?_; rintro e v1 ⟨rfl, hb⟩)
  go_returns
  exact ⟨by simp, hb⟩
set_option maxHeartbeats 2000000 in
theorem IndexI (z : Int) (A : Option Addr) (n c : Nat) (L : List Int) (w : World) (h : Ns w A n L) :
    Calls Try.prog 40 #[.slice A n c, .int .i64 z] w (Ret (.int .i64 (idxL (fun x => z == x) L)) w) := by
  have hn := h.2.1
  have H := hid h
  clear h
  go_enter Try.func40, Try.ntmps40
  go_wp2_with fail
  go_loopw [5, 8] (fun _ v wr => ∃ k : Nat, k ≤ n ∧ v = .int .i64 k ∧ BelowC w wr ∧ Hid (∀ j (hj : j < L.length), j < k → (z == L[j]) = false)) (fun _ v _ => n - (intOf v).toNat)
  case atStart => exact ⟨0, by omega, rfl, bc_refl w, hid (fun j _ hj => absurd hj (by omega))⟩
  case round =>
    obtain ⟨k, hk, rfl, HK, HA⟩ := hrel
    rename World => wK
    by_cases hlt : k < n
    · obtain ⟨b, o, rfl, hb0, hc⟩ := H.out.2.2 (by omega)
      have hkl : k < L.length := by have := H.out.1; omega
      have HKL := hid hkl
      have hx := bc_cell (hc k hkl) hb0 _ HK
      generalize hy : L[k] = y at hx
      have HY := hid hy
      clear hc hy hkl
      cases hq : (z == y)
      · have HQ := hid hq
        go_wp2_with fail
        go_roundw
        case rel =>
          refine ⟨k + 1, by omega, by go_num, HK, hid fun j hjl hj => ?_⟩
          by_cases e : j = k
          · subst e; exact (congrArg (fun x => z == x) HY.out).trans HQ.out
          · exact HA.out j hjl (by omega)
        case measure => simp [intOf]; omega
      · have HQ := hid hq
        go_wp2_with fail
        go_returns
        exact ⟨ret_intq (idxL_hit HKL.out ((congrArg (fun x => z == x) HY.out).trans HQ.out) (fun j hj => HA.out j _ hj)).symm, HK⟩
    · have HN := hid (idxL_miss (p := fun x => z == x) (L := L) (fun j hj => HA.out j hj (by have := H.out.1; omega)))
      go_wp2_with fail
      go_returns
      exact ⟨ret_intq HN.out.symm, HK⟩
theorem any_mem (z : Int) (L : List Int) : L.any (fun x => z == x) = decide (z ∈ L) := by
  rw [Bool.eq_iff_iff, List.any_eq_true, decide_eq_true_eq]
  constructor
  · rintro ⟨x, hx, e⟩
    rw [eq_of_beq e]
    exact hx
  · intro h
    exact ⟨z, h, by simp⟩
theorem Contains (z : Int) (A : Option Addr) (n c : Nat) (L : List Int) (w : World) (h : Ns w A n L) :
    Calls Try.prog 29 #[.slice A n c, .int .i64 z] w (Ret (.bool (decide (z ∈ L))) w) := by
  rw [← any_mem, any_idxL]
  go_enter Try.func29, Try.ntmps29
  go_wp2_with (go_at_call 40; refine (IndexI z A n c L _ h).mono ?_; rintro e v1 ⟨rfl, hb⟩)
  go_returns
  exact ⟨by simp, hb⟩
set_option maxRecDepth 100000 in
set_option maxHeartbeats 4000000 in
theorem DeleteFunc (p : Int → Bool) (g0 : Nat) (lb : Array Value) (eg : ∀ args w, (callFunc g0 args).run Try.prog w = .ok (.enter g0 args) w) (v : Value) (L : List Int) (w b : World) (h : OwnI w b v L) (hB : BelowC b w) (hp : Pred p g0 lb b) :
    Calls Try.prog 30 #[v, .func (.func g0) #[] lb] w fun e w' => ∃ v', e = .returned v' ∧ OwnI w' b v' (L.filter fun x => !p x) ∧ BelowC b w' := by
  obtain ⟨A, n, c, rfl, hn, hnc, hL, hA⟩ := ownI_form h
  have hml : maxLen = 9223372036854775807 := rfl
  have hn2 := hL.2.1
  have IF := hid (IndexFunc p g0 lb eg A n c L w hL (fun x W hW => hp x W (bc_trans hB hW)))
  have H := hid h
  have HP := hid hp
  have HN := hid hn
  rcases idx_cases p L with ⟨hi, hall⟩ | ⟨k, hk, hi, hpk, hlow⟩
  · have HI := hid hi
    have HF : Hid (L.filter (fun x => !p x) = L) := hid (List.filter_eq_self.2 fun x hx => by simp [hall x hx])
    have HBB := hid hB
    clear h hp hn hi hall hL hA hB
    go_enter Try.func30, Try.ntmps30
    go_wp2_with (go_at_call 41; refine IF.out.mono ?_; rintro e v1 ⟨rfl, hb⟩; rw [HI.out]; have HX := hid hb; clear hb)
    go_returns
    exact ⟨_, rfl, by rw [HF.out]; exact ownI_below H.out HX.out, bc_step HBB.out HX.out⟩
  · obtain ⟨g, o1, rfl, _, _⟩ := hL.2.2 (by omega)
    obtain ⟨g', hg, hbg, hgl⟩ := hA _ rfl
    cases hg
    have HI := hid hi
    have HBB := hid hB
    have HK : Hid ((L.take (k + 1)).filter (fun x => !p x) = L.take k) := hid (by
      rw [filter_take hk, filter_pre (fun j hj hl => by simp [hlow j hj])]
      simp [hpk])
    have hkn : k < n := by omega
    clear h hp hn hi hL hA hB hpk hlow hk
    have hk1 : ((k : Int) == -1) = false := beq_false_of_ne (by omega)
    go_enter Try.func30, Try.ntmps30
    go_wp2_with (go_at_call 41; refine IF.out.mono ?_; rintro e v1 ⟨rfl, hb⟩; rw [HI.out]; have HX := hid hb; clear hb)
    go_loopw [5, 6, 7] (fun u y _ wr => ∃ (i j : Nat) (M : List Int), i < j ∧ j ≤ n ∧ u = .int .i64 i ∧ y = .int .i64 j ∧ OwnI wr b (.slice (some ⟨g, 0, none⟩) n c) M ∧ Hid (n = M.length ∧ M.take i = (L.take j).filter (fun x => !p x) ∧ M.drop j = L.drop j) ∧ BelowC b wr) (fun _ y _ _ => n - (intOf y).toNat)
    case atStart => exact ⟨k, k + 1, L, by omega, by omega, rfl, by go_num, ownI_below H.out HX.out, hid ⟨HN.out, HK.out.symm, rfl⟩, bc_step HBB.out HX.out⟩
    case round =>
      obtain ⟨i, j, M, hij, hj, rfl, rfl, HO, HM, HW⟩ := hrel
      rename World => wJ
      clear HX HK HI IF
      have HOw := hid HO
      clear HO
      by_cases hlt : j < n
      · have hjm : j < M.length := by have := HM.out.1; omega
        have hjl : j < L.length := by have := HN.out; omega
        have hx := ownI_at HOw.out HM.out.1 hjm
        have HE : Hid (M[j] = L[j]) := hid (by
          have e := congrArg (fun Z => Z[0]?) HM.out.2.2
          simp only [List.getElem?_drop, Nat.add_zero] at e
          rw [List.getElem?_eq_getElem hjm, List.getElem?_eq_getElem hjl] at e
          exact Option.some.inj e)
        have HF : Hid ((L.take (j + 1)).filter (fun x => !p x) = (L.take j).filter (fun x => !p x) ++ (if (!p M[j]) = true then [M[j]] else [])) := hid (by rw [filter_take hjl, HE.out])
        have HD : Hid (M.drop (j + 1) = L.drop (j + 1)) := hid (by
          have e := congrArg (List.drop 1) HM.out.2.2
          rw [List.drop_drop, List.drop_drop] at e
          exact e)
        have hil : i < M.length := by omega
        have HIL := hid hil
        clear hil
        generalize M[j] = x at hx HF HE
        clear hjm hjl HE
        have hcall := HP.out x wJ HW
        have i1 : (i : Int) < (n : Int) := by omega
        rcases (show p x = true ∨ p x = false by cases p x <;> simp) with hq | hq
        · rw [hq] at hcall
          have HC := hid hcall
          have HQ := hid hq
          clear hcall hq
          go_wp2_with (go_at_fn g0; refine HC.out.mono ?_; rintro e v1 ⟨rfl, hb⟩; have HX : BelowC wJ v1 := bc_step (bc_refl _) hb; clear hb)
          go_roundw
          case rel => exact ⟨i, j + 1, M, by omega, by omega, rfl, by go_num, ownI_below HOw.out HX, hid ⟨HM.out.1, by rw [HF.out, HQ.out, HM.out.2.1]; simp, HD.out⟩, bc_trans HW HX⟩
          case measure => simp [intOf]; omega
        · rw [hq] at hcall
          have HC := hid hcall
          have HQ := hid hq
          clear hcall hq
          go_wp2_with (go_at_fn g0; refine HC.out.mono ?_; rintro e v1 ⟨rfl, hb⟩; have HX : BelowC wJ v1 := bc_step (bc_refl _) hb; clear hb; have HO1 := hid (ownI_below HOw.out HX); have hy := ownI_at HO1.out HM.out.1 HIL.out; have fz := ownI_fz HO1.out HM.out.1)
          go_roundw
          case rel =>
            refine ⟨i + 1, j + 1, M.set i x, by omega, by omega, by go_num, by go_num, ownI_set HO1.out HM.out.1 i x, hid ⟨by rw [List.length_set]; exact HM.out.1, ?_, ?_⟩, ?_⟩
            · rw [HF.out, HQ.out, ← HM.out.2.1, take_succ' (by rw [List.length_set]; exact HIL.out), List.take_set_of_le (Nat.le_refl _)]
              simp
            · rw [List.drop_set_of_lt (by omega)]
              exact HD.out
            · exact bc_set (bc_trans HW HX) hbg
          case measure => simp [intOf]; omega
      · have ej : j = n := by omega
        have hin : i < n := by omega
        have hcl := fun ty => Lib.run_clear_slice (P := Try.prog) wJ 23 3 ty (.int .i64 0) Try.underlying23 Try.zeroValue3 rfl rfl g i (n - i) (c - i) (by omega) (fun q hq => by rw [ownI_at HOw.out HM.out.1 (by have := HM.out.1; omega : i + q < M.length)]; rfl) (fun q hq => ownI_fz HOw.out HM.out.1 _)
        obtain ⟨xs', hx', ht', _⟩ := ownI_setCells (List.replicate (n - i) (Value.int .i64 0)) i wJ (M.map (Value.int .i64)) (by have := HOw.out; unfold OwnI at this; rw [← HM.out.1] at this; exact this) (by simp; omega)
        have HFin : Hid (OwnI (wJ.setCells g i (List.replicate (n - i) (Value.int .i64 0))) b (.slice (some ⟨g, 0, none⟩) i c) (L.filter fun x => !p x)) := hid (by
          have e0 : L.filter (fun x => !p x) = M.take i := by rw [HM.out.2.1, ej, List.take_of_length_le (by have := HN.out; omega)]
          refine ownI_cut hx' (by omega) (by rw [e0, List.length_take]; have := HM.out.1; omega) ?_
          rw [e0, List.map_take]
          apply List.ext_getElem?
          intro q
          by_cases hq : q < i
          · rw [List.getElem?_take_of_lt hq, List.getElem?_take_of_lt hq, ht' q hq]
          · rw [List.getElem?_take_eq_none (by omega), List.getElem?_take_eq_none (by omega)])
        have hic : i ≤ c := by omega
        have i2 : (i : Int) ≤ (n : Int) := by omega
        have i3 : (i : Int) ≤ (c : Int) := by omega
        clear hx' ht' ej
        go_wp2_with fail
        go_returns
        exact ⟨_, rfl, HFin.out, bc_setCells hbg _ _ _ HW⟩
end Go.Proofs.Ytmokjaelgfikeaa.K
