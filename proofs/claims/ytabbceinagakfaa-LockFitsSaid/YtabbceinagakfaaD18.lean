/- quorumref0.Rising. -/
import Derived.Test.YtabbceinagakfaaProg
import Derived.Below
import Derived.WalkKit
import Derived.KernelRfl
import Derived.RowKit
import Derived.RowKit3
import Derived.Tactics
import Derived.Deep.QuietTactic
import Derived.BigQuiet
import Derived.OwnWalk
import Derived.Outline
import Derived.Handy
import Derived.StillTailTactics
import Derived.Deep.RegionHeld3
import Derived.Deep.DeepCutAuto
import Derived.Deep.CutBlock
import Derived.Shelf.Abstract
import Derived.Shelf.SlSortCmp.QuietGrown
import Derived.Lib.SliceRun
import Derived.Sort.OwnSortedInts
import Derived.Lib.SlicesCompact
import Derived.Lib.SmallJoins
import Derived.SliceStrings
import Derived.ArgAppend
import Derived.Deep.Slices
import Derived.ChangeSame
import Derived.Lib.Strings
import Derived.Test.YtabbceinagakfaaD17
namespace Go.Proofs.Ytabbceinagakfaa.K
open Go.RowKit Go.Proofs.YtabbceinagakfaaS
set_option linter.unusedSimpArgs false
set_option linter.unusedVariables false
attribute [local go_sem] s_leq s_gtr s_geq s_maxr s_minr
attribute [local go_sem] bc_alloc2 bc_alloc3 s_alloc_drewN s_setCell_drewN bc_alloc bc_drewN bc_drew

def Pause (p : Prop) : Prop := p
theorem pause {p : Prop} (h : Pause p) : p := h
def RetS (l : List Int) (w : World) (e : Ending) (w' : World) : Prop := ∃ v xs, e = .returned v ∧ OwnI w' w v xs ∧ Strict xs ∧ (∀ z, z ∈ xs ↔ z ∈ l) ∧ BelowC w w'
theorem take_mem {l : List Int} {i : Nat} (hi : i < l.length) (z : Int) : z ∈ l.take (i + 1) ↔ z ∈ l.take i ∨ z = l[i] := by
  rw [List.take_add_one, List.getElem?_eq_getElem hi, Option.toList_some, List.mem_append, List.mem_singleton]
set_option maxRecDepth 100000 in
set_option maxHeartbeats 4000000 in
theorem Rising (A : Option Addr) (n c : Nat) (l : List Int) (w : World) (h : Ns w A n l) (hbig : n ≤ 17592186044415) : Calls Try.prog 61 #[.slice A n c] w (RetS l w) := by
  have hn := h.2.1
  have H := hid h
  have HL := hid h.1
  clear h
  have h0 := bc_refl w
  go_enter Try.func61, Try.ntmps61
  go_wp2_with fail
  go_loopw [3, 4, 5, 6] (fun u y _ _ wr => ∃ (i : Nat) (xs : List Int), i ≤ n ∧ y = .int .i64 i ∧ OwnI wr w u xs ∧ Hid (Strict xs ∧ (∀ z, z ∈ xs ↔ z ∈ l.take i) ∧ xs.length ≤ i) ∧ BelowC w wr) (fun _ y _ _ _ => n - (intOf y).toNat)
  case atStart => exact ⟨0, [], by omega, rfl, ownI_nil _ _, hid ⟨List.Pairwise.nil, by simp, by simp⟩, h0⟩
  case round =>
    obtain ⟨i, xs, hi, rfl, HO, HX, HI⟩ := hrel
    rename World => wI
    by_cases hlt : i < n
    rotate_left
    · have e : l.take i = l := by have := HL.out; exact List.take_of_length_le (by omega)
      have HX2 := hid HX.out
      have HOw := hid HO
      have HE := hid e
      clear HO e
      go_wp2_with fail
      go_returns
      exact ⟨_, xs, rfl, HOw.out, HX.out.1, fun z => by have := HX.out.2.1 z; rw [HE.out] at this; exact this, HI⟩
    obtain ⟨b, o, rfl, hb0, hcs⟩ := H.out.2.2 (by omega)
    have hil : i < l.length := by have := HL.out; omega
    have hz := hcs i hil
    have HT := hid (take_mem hil)
    generalize l[i] = z at hz HT
    have qz := bc_cell hz hb0
    clear hz hcs hil
    obtain ⟨A', m, c', rfl, hm, hmc, hN, hA'⟩ := ownI_form HO
    have HOw := hid HO
    have HM := hid hm
    have hmi : m ≤ i := by have := HX.out.2.2; omega
    have hII := bc_refl wI
    clear HO hm
    have i1 : (i : Int) < (n : Int) := by omega
    have HN := hid hN
    have HAd := hid hA'
    clear hN hA'
    have hxm : m ≤ 9223372036854775807 := by omega
    go_upto_block 2 with fail
    go_cut [5] (fun u wc => ∃ k : Nat, k ≤ m ∧ u = .int .i64 k ∧ Hid ((∀ j (hj : j < xs.length), j < k → xs[j] < z) ∧ ∀ (hk : k < xs.length), z ≤ xs[k]) ∧ BelowC wI wc)
    case first =>
      as_aux_lemma =>
      go_wp2_with fail
      go_loopw [5] (fun u wr => ∃ k : Nat, k ≤ m ∧ u = .int .i64 k ∧ Hid (∀ j (hj : j < xs.length), j < k → xs[j] < z) ∧ BelowC wI wr) (fun u _ => m - (intOf u).toNat)
      case atStart => exact ⟨0, by omega, rfl, hid (fun j _ hj => absurd hj (by omega)), hII⟩
      case round =>
        clear hII
        obtain ⟨k, hk, rfl, HK, HW⟩ := hrel
        rename World => wK
        have HWw := bc_trans HI HW
        by_cases hkm : k < m
        · obtain ⟨g, o2, hA2, hg, hcx⟩ := HN.out.2.2 (by omega)
          obtain rfl := hA2
          have hkl : k < xs.length := by have := HM.out; omega
          have hx := hcx k hkl
          have HKL := hid hkl
          generalize hxe : xs[k] = x at hx
          have HXE := hid hxe
          have qx := bc_cell hx hg
          clear hx hcx hkl hxe
          have hd1 : decide ((k : Int) < (m : Int)) = true := decide_eq_true (by omega)
          have i2 : (k : Int) < (m : Int) := by omega
          by_cases hxz : x < z
          · have hd2 : decide (x < z) = true := decide_eq_true hxz
            go_wp2_with fail
            go_quiet (fail)
            go_wp2_with fail
            go_roundw
            case rel =>
              refine ⟨k + 1, by omega, by go_num, hid fun j hjl hj => ?_, bc_drewN HW _⟩
              by_cases e : j = k
              · subst e; rw [show xs[j] = x from HXE.out]; exact hxz
              · exact HK.out j hjl (by omega)
            case measure => simp [intOf]; omega
          · have hd2 : decide (x < z) = false := decide_eq_false hxz
            go_wp2_with fail
            go_quiet (fail)
            go_wp2_with fail
            go_meet
            case rel => exact ⟨k, by omega, rfl, hid ⟨HK.out, fun hk => by rw [show xs[k] = x from HXE.out]; omega⟩, bc_drewN HW _⟩
        · have hd1 : decide ((k : Int) < (m : Int)) = false := decide_eq_false (by omega)
          go_wp2_with fail
          go_quiet (fail)
          go_wp2_with fail
          go_meet
          case rel => exact ⟨k, by omega, rfl, hid ⟨HK.out, fun hk => by have := HM.out; omega⟩, bc_drewN HW _⟩
    case rest =>
    clear hII
    obtain ⟨k, hk, rfl, HK, HW⟩ := hcut
    rename World => wK
    have HWw := bc_trans HI HW
    go_upto_region 8 with (fail)
    go_cut [44] (fun u wc => ∃ d : Bool, u = .bool d ∧ Hid (d = true → ∃ hk : k < xs.length, xs[k] = z) ∧ Hid (d = false → ∀ hk : k < xs.length, xs[k] ≠ z) ∧ BelowC wI wc)
    case first =>
      as_aux_lemma =>
      by_cases hkm : k < m
      · obtain ⟨g, o2, hA2, hg, hcx⟩ := HN.out.2.2 (by omega)
        obtain rfl := hA2
        have hkl : k < xs.length := by have := HM.out; omega
        have hx := hcx k hkl
        have HKL := hid hkl
        generalize hxe : xs[k] = x at hx
        have HXE := hid hxe
        have qx := bc_cell hx hg
        clear hx hcx hkl hxe
        have hd1 : decide ((k : Int) < (m : Int)) = true := decide_eq_true (by omega)
        have i2 : (k : Int) < (m : Int) := by omega
        cases hxz : (x == z)
        · go_quiet (fail)
          go_wp2_with fail
          go_meet
          case rel => exact ⟨false, by simp [hxz], hid (fun e => by cases e), hid (fun _ hk => by rw [show xs[k] = x from HXE.out]; exact fun e => by rw [e] at hxz; simp at hxz), bc_drewN HW _⟩
        · go_quiet (fail)
          go_wp2_with fail
          go_meet
          case rel => exact ⟨true, by simp [hxz], hid (fun _ => ⟨HKL.out, by rw [show xs[k] = x from HXE.out]; exact eq_of_beq hxz⟩), hid (fun e => by cases e), bc_drewN HW _⟩
      · have hd1 : decide ((k : Int) < (m : Int)) = false := decide_eq_false (by omega)
        go_quiet (fail)
        go_wp2_with fail
        go_meet
        case rel => exact ⟨false, rfl, hid (fun e => by cases e), hid (fun _ hk => by have := HM.out; omega), bc_drewN HW _⟩
    case rest =>
    clear HW HWw
    obtain ⟨d, rfl, HD1, HD2, HW⟩ := hcut
    rename World => wL
    cases d
    rotate_left
    · have HS := hid (HD1.out rfl)
      go_wp2_with fail
      go_roundw
      case rel =>
        refine ⟨i + 1, xs, by omega, by go_num, ownI_below HOw.out HW, hid ⟨HX.out.1, fun y => ?_, by have := HX.out.2.2; omega⟩, bc_trans HI HW⟩
        obtain ⟨hk', he⟩ := HS.out
        rw [HT.out y, HX.out.2.1 y]
        refine ⟨Or.inl, fun hy => ?_⟩
        rcases hy with hy | hy
        · exact hy
        · rw [hy, ← HX.out.2.1 z, ← he]
          exact List.getElem_mem hk'
      case measure => simp [intOf]; omega
    have HNE := hid (HD2.out rfl)
    clear HD1 HD2
    have HWw := hid (bc_trans HI HW)
    go_wp2_with (at_builtin; refine pause ?_)
    unfold Pause
    refine app35 (b := w) rfl (.tmp 45) (.tmp 46) rfl _ xs rfl (ownI_below HOw.out (bc_trans HW (bc_alloc (bc_refl _) _))) wL.heap.size 0 rfl (one_int wL 0) (by have := HM.out; omega) (bc_trans HWw.out (bc_alloc (bc_refl _) _)) ?_
    intro v' w1 hown1 HB1
    obtain ⟨A2, m2, c2, rfl, hm2, hmc2, hN2, hA2⟩ := ownI_form hown1
    have hmm : m2 = m + 1 := by
      have e2 := HM.out
      rw [hm2, List.length_append, ← e2]
      rfl
    subst hmm
    obtain ⟨g2, o2, rfl, hg2, _⟩ := hN2.2.2 (by omega)
    obtain ⟨g', hge, hgb, _⟩ := hA2 _ rfl
    cases hge
    have HOWN := hid hown1
    have HLN : Hid ((xs ++ [0]).length = m + 1) := hid hm2.symm
    clear hown1 hm2 hA2 hN2
    go_wp2_with fail
    go_loopw [6] (fun u wr => ∃ (j : Nat) (M : List Int), k ≤ j ∧ j ≤ m ∧ u = .int .i64 j ∧ OwnI wr w (.slice (some ⟨g2, 0, none⟩) (m + 1) c2) M ∧ Hid (m + 1 = M.length ∧ (∀ q, q < j → M[q]? = xs[q]?) ∧ (∀ q, j < q → q ≤ m → M[q]? = xs[q - 1]?)) ∧ BelowC w wr) (fun u _ => (intOf u).toNat)
    case atStart => exact ⟨m, xs ++ [0], hk, by omega, by go_num, HOWN.out, hid ⟨HLN.out.symm, fun q hq => by rw [List.getElem?_append_left (by have := HM.out; omega)], fun q h1 h2 => by omega⟩, HB1⟩
    case round =>
      obtain ⟨j, M, hkj, hjm, rfl, HOM, HMM, HWM⟩ := hrel
      rename World => wM
      have HO2 := hid HOM
      clear HOM
      by_cases hlt2 : k < j
      · obtain ⟨j', rfl⟩ : ∃ j', j = j' + 1 := ⟨j - 1, by omega⟩
        have c1 := ownI_at HO2.out HMM.out.1 (j := j') (by have := HMM.out.1; omega)
        have c2' := ownI_at HO2.out HMM.out.1 (j := j' + 1) (by have := HMM.out.1; omega)
        have HJ : Hid (M[j']? = some (M[j']'(by have := HMM.out.1; omega))) := hid (List.getElem?_eq_getElem _)
        generalize (M[j']'(by have := HMM.out.1; omega)) = y at c1 HJ
        generalize (M[j' + 1]'(by have := HMM.out.1; omega)) = y2 at c2'
        have fz := ownI_fz HO2.out HMM.out.1
        have i3 : ((j' + 1 : Nat) : Int) - 1 = (j' : Int) := by omega
        have i4 : (k : Int) < ((j' + 1 : Nat) : Int) := by omega
        have i5 : (j' : Int) < ((m + 1 : Nat) : Int) := by omega
        have i6 : ((j' + 1 : Nat) : Int) < ((m + 1 : Nat) : Int) := by omega
        go_wp2_with fail
        go_roundw
        case rel =>
          refine ⟨j', M.set (j' + 1) y, by omega, by omega, by go_num, ownI_set HO2.out HMM.out.1 (j' + 1) y, hid ⟨by rw [List.length_set]; exact HMM.out.1, fun q hq => ?_, fun q h1 h2 => ?_⟩, bc_set HWM hgb⟩
          · rw [List.getElem?_set_ne (by omega)]
            exact HMM.out.2.1 q (by omega)
          · by_cases e : q = j' + 1
            · subst e
              rw [List.getElem?_set_self (by have := HMM.out.1; omega), ← HJ.out]
              exact HMM.out.2.1 j' (by omega)
            · rw [List.getElem?_set_ne (by omega)]
              exact HMM.out.2.2 q (by omega) h2
        case measure => simp [intOf] <;> omega
      · obtain rfl : j = k := by omega
        have c2' := ownI_at HO2.out HMM.out.1 (j := j) (by have := HMM.out.1; omega)
        generalize (M[j]'(by have := HMM.out.1; omega)) = y2 at c2'
        have fz := ownI_fz HO2.out HMM.out.1
        have i6 : (j : Int) < ((m + 1 : Nat) : Int) := by omega
        have HF : Hid (M.set j z = insAt xs j z) := hid (by
          have hxl := HM.out
          have hml := HMM.out.1
          apply List.ext_getElem?
          intro q
          unfold insAt
          by_cases e : q = j
          · subst e
            rw [List.getElem?_set_self (by omega), List.getElem?_append_right (by rw [List.length_take]; omega), List.length_take, Nat.min_eq_left (by omega)]
            simp
          · rw [List.getElem?_set_ne (by omega)]
            by_cases hq : q < j
            · rw [HMM.out.2.1 q hq, List.getElem?_append_left (by rw [List.length_take]; omega), List.getElem?_take_of_lt hq]
            · by_cases hqm : q ≤ m
              · rw [HMM.out.2.2 q (by omega) hqm, List.getElem?_append_right (by rw [List.length_take]; omega), List.length_take, Nat.min_eq_left (by omega)]
                obtain ⟨r, rfl⟩ : ∃ r, q = j + 1 + r := ⟨q - j - 1, by omega⟩
                rw [show j + 1 + r - j = r + 1 by omega, List.getElem?_cons_succ, List.getElem?_drop, show j + 1 + r - 1 = j + r by omega]
              · rw [List.getElem?_eq_none (by omega), List.getElem?_eq_none (by simp; omega)])
        have hqz := bc_set (b := w) (g := g2) (j := j) (v := .int .i64 z) HWM hgb
        go_wp2_with fail
        go_roundw
        case rel =>
          refine ⟨i + 1, insAt xs j z, by omega, by go_num, by rw [← HF.out]; exact ownI_set HO2.out HMM.out.1 j z, hid ⟨insAt_strict HX.out.1 (by have := HM.out; omega) HK.out.1 (fun hk' => ?_), fun y => ?_, ?_⟩, hqz⟩
          · have a1 := HK.out.2 hk'
            have a2 := HNE.out hk'
            omega
          · rw [insAt_mem, HT.out y, HX.out.2.1 y]
            constructor <;> rintro (h | h) <;> simp [h]
          · have := HX.out.2.2
            have hxl := HM.out
            unfold insAt
            rw [List.length_append, List.length_cons, List.length_take, List.length_drop]
            omega
        case measure => simp [intOf]; omega
end Go.Proofs.Ytabbceinagakfaa.K
