/- lock.Others. -/
import Derived.Test.YtabbceinagakfaaProg
import Derived.Below
import Derived.WalkKit
import Derived.KernelRfl
import Derived.RowKit
import Derived.RowKit3
import Derived.Tactics
import Derived.Deep.QuietTactic
import Derived.BigQuiet
import Derived.OwnWalk
import Derived.Outline
import Derived.Handy
import Derived.StillTailTactics
import Derived.Deep.RegionHeld3
import Derived.Deep.DeepCutAuto
import Derived.Deep.CutBlock
import Derived.Shelf.Abstract
import Derived.Shelf.SlSortCmp.QuietGrown
import Derived.Lib.SliceRun
import Derived.Sort.OwnSortedInts
import Derived.Lib.SlicesCompact
import Derived.Lib.SmallJoins
import Derived.SliceStrings
import Derived.ArgAppend
import Derived.Deep.Slices
import Derived.ChangeSame
import Derived.Lib.Strings
import Derived.Test.YtabbceinagakfaaD14
namespace Go.Proofs.Ytabbceinagakfaa.K
open Go.RowKit Go.Proofs.YtabbceinagakfaaS
set_option linter.unusedSimpArgs false
set_option linter.unusedVariables false
attribute [local go_sem] s_leq s_gtr s_geq s_maxr s_minr
attribute [local go_sem] bc_alloc2 bc_alloc3 s_alloc_drewN s_setCell_drewN bc_alloc bc_drewN bc_drew

theorem one_int (w : World) (z : Int) : (w.alloc (.cells #[.int .i64 z] 3)).cell? ⟨w.heap.size, 0, none⟩ = some (.int .i64 z) := by simp
theorem filt_take {L : List LockV} {k : Nat} {p : LockV → Bool} (h : k < L.length) : ((L.take (k + 1)).filter p).map (·.owner) = ((L.take k).filter p).map (·.owner) ++ (if p L[k] then [L[k].owner] else []) := by
  rw [filter_take h, List.map_append]
  congr 1
  cases p L[k] <;> rfl
set_option maxRecDepth 100000 in
set_option maxHeartbeats 4000000 in
theorem Others (A : Option Addr) (n c : Nat) (L : List LockV) (x : LockV) (w : World) (h : Lks w A n L) (hbig : n ≤ 2199023255551) : Calls Try.prog 28 #[.slice A n c, x.val] w (RetI (othersL L x) w) := by
  have hn := h.2.1
  have H := hid h
  have HL := hid h.1
  clear h
  obtain ⟨wb, hA, hAA, hsz, c0, c1, c2, c3, c4, c5⟩ : ∃ wb : World, BelowC w wb ∧ BelowC wb (w.alloc (.cells #[.int .i64 x.owner, .int .i64 x.table, .string x.lo, .string x.hi, .bool x.top, .int .i64 x.mode] 31)) ∧ w.heap.size + 1 ≤ wb.heap.size ∧ (∀ w', BelowC wb w' → w'.cell? ⟨w.heap.size, 0, none⟩ = some (.int .i64 x.owner)) ∧ (∀ w', BelowC wb w' → w'.cell? ⟨w.heap.size, 1, none⟩ = some (.int .i64 x.table)) ∧ (∀ w', BelowC wb w' → w'.cell? ⟨w.heap.size, 2, none⟩ = some (.string x.lo)) ∧ (∀ w', BelowC wb w' → w'.cell? ⟨w.heap.size, 3, none⟩ = some (.string x.hi)) ∧ (∀ w', BelowC wb w' → w'.cell? ⟨w.heap.size, 4, none⟩ = some (.bool x.top)) ∧ (∀ w', BelowC wb w' → w'.cell? ⟨w.heap.size, 5, none⟩ = some (.int .i64 x.mode)) := ⟨_, bc_alloc (bc_refl _) _, bc_refl _, by simp, bc_cell (by go_simp) (by first | (simp; done) | (simp; omega)), bc_cell (by go_simp) (by first | (simp; done) | (simp; omega)), bc_cell (by go_simp) (by first | (simp; done) | (simp; omega)), bc_cell (by go_simp) (by first | (simp; done) | (simp; omega)), bc_cell (by go_simp) (by first | (simp; done) | (simp; omega)), bc_cell (by go_simp) (by first | (simp; done) | (simp; omega))⟩
  have HA := hid hA
  go_enter Try.func28, Try.ntmps28
  go_wp2_with fail
  go_loopw [4, 6, 9] (fun u _ y wr => ∃ k : Nat, k ≤ n ∧ y = .int .i64 k ∧ OwnI wr wb u (((L.take k).filter (clashL x)).map (·.owner)) ∧ BelowC wb wr) (fun _ _ y _ => n - (intOf y).toNat)
  case atStart => exact ⟨0, by omega, rfl, ownI_nil _ _, hAA⟩
  case round =>
    clear hAA
    obtain ⟨k, hk, rfl, HO, HK⟩ := hrel
    rename World => wK
    have HOw := hid HO
    clear HO
    by_cases hlt : k < n
    · obtain ⟨b, o, rfl, hb0, hcs⟩ := H.out.2.2 (by omega)
      have hkl : k < L.length := by have := HL.out; omega
      have hy := (hcs k hkl).below (bc_trans hA HK) hb0
      have HT := hid (filt_take (p := clashL x) hkl)
      have HT2 : Hid ((((L.take k).filter (clashL x)).map (·.owner)).length ≤ k) := hid (by
        rw [List.length_map]
        exact Nat.le_trans (List.length_filter_le _ _) (by rw [List.length_take]; omega))
      generalize L[k] = y at hy HT
      have q0 := hy.c0
      have q1 := hy.c1
      have q2 := hy.c2
      have q3 := hy.c3
      have q4 := hy.c4
      have q5 := hy.c5
      clear hy hcs hkl
      obtain ⟨wy, hY, hYY, r0, r1, r2, r3, r4, r5, hsy⟩ : ∃ wy : World, BelowC wK wy ∧ BelowC wy (wK.alloc (.cells #[.int .i64 y.owner, .int .i64 y.table, .string y.lo, .string y.hi, .bool y.top, .int .i64 y.mode] 31)) ∧ (∀ w', BelowC wy w' → w'.cell? ⟨wK.heap.size, 0, none⟩ = some (.int .i64 y.owner)) ∧ (∀ w', BelowC wy w' → w'.cell? ⟨wK.heap.size, 1, none⟩ = some (.int .i64 y.table)) ∧ (∀ w', BelowC wy w' → w'.cell? ⟨wK.heap.size, 2, none⟩ = some (.string y.lo)) ∧ (∀ w', BelowC wy w' → w'.cell? ⟨wK.heap.size, 3, none⟩ = some (.string y.hi)) ∧ (∀ w', BelowC wy w' → w'.cell? ⟨wK.heap.size, 4, none⟩ = some (.bool y.top)) ∧ (∀ w', BelowC wy w' → w'.cell? ⟨wK.heap.size, 5, none⟩ = some (.int .i64 y.mode)) ∧ wy.heap.size = wK.heap.size + 1 := ⟨_, bc_alloc (bc_refl _) _, bc_refl _, bc_cell (by go_simp) (by simp), bc_cell (by go_simp) (by simp), bc_cell (by go_simp) (by simp), bc_cell (by go_simp) (by simp), bc_cell (by go_simp) (by simp), bc_cell (by go_simp) (by simp), by simp⟩
      have HY := hid hY
      have HSY := hid hsy
      clear hY hsy
      have HKK := hid HK
      rcases (show clashL x y = true ∨ clashL x y = false by cases clashL x y <;> simp) with hq | hq
      · have HQ := hid hq
        have HN : Hid (((L.take (k + 1)).filter (clashL x)).map (·.owner) = ((L.take k).filter (clashL x)).map (·.owner) ++ [y.owner]) := hid (by rw [HT.out, hq]; rfl)
        clear hq
        go_wp2_with (first | (go_at_call 49; (with_reducible refine (clash x y _).mono ?_); rintro e v1 ⟨rfl, hb⟩; rw [HQ.out]; have HX : BelowC wy v1 := bc_step hYY hb; clear hb; have HXK := hid (bc_trans HY.out HX)) | (at_builtin; refine app35 (b := wb) rfl (.tmp 16) (.tmp 19) rfl _ _ rfl (ownI_below HOw.out (bc_trans HXK.out (bc_alloc (bc_refl _) _))) v1.heap.size y.owner rfl (one_int v1 y.owner) (by have := HT2.out; omega) (bc_trans HKK.out (bc_trans HXK.out (bc_alloc (bc_refl _) _))) ?_; intro v' w1 hown1 HB1; have HOWN := hid hown1; clear hown1))
        go_roundw
        case rel => exact ⟨k + 1, by omega, by go_num, by rw [HN.out]; exact HOWN.out, HB1⟩
        case measure => simp [intOf]; omega
      · have HQ := hid hq
        have HN : Hid (((L.take (k + 1)).filter (clashL x)).map (·.owner) = ((L.take k).filter (clashL x)).map (·.owner)) := hid (by rw [HT.out, hq]; simp)
        clear hq
        go_wp2_with (first | (go_at_call 49; (with_reducible refine (clash x y _).mono ?_); rintro e v1 ⟨rfl, hb⟩; rw [HQ.out]; have HX : BelowC wy v1 := bc_step hYY hb; clear hb))
        go_roundw
        case rel => exact ⟨k + 1, by omega, by go_num, by rw [HN.out]; exact ownI_below HOw.out (bc_trans HY.out HX), bc_trans HKK.out (bc_trans HY.out HX)⟩
        case measure => simp [intOf]; omega
    · have e : L.take k = L := by have := HL.out; exact List.take_of_length_le (by omega)
      have HOf := HOw.out
      rw [e] at HOf
      have HL2 : Hid (((L.filter (clashL x)).map (·.owner)).length < 4611686018427387904) := hid (by
        rw [List.length_map]
        exact Nat.lt_of_le_of_lt (List.length_filter_le _ _) (by have := HL.out; omega))
      have HOg := hid HOf
      have HKw := hid HK
      clear HOf e HOw
      go_wp2_with (first | (go_at_call 52; refine (SortI _ wb _ _ HOg.out HKw.out HL2.out).mono ?_; rintro e v1 ⟨rfl, ho, hb⟩; have HS := hid ho; have HSB := hid hb; clear ho hb) | (go_at_call 53; refine (CompactI _ wb _ _ HS.out HSB.out).mono ?_; rintro e v2 ⟨v', rfl, ho, hb⟩; have HC := hid ho; have HCB := hid hb; clear ho hb))
      go_returns
      exact ⟨_, rfl, ownI_le HC.out HA.out, bc_trans HA.out HCB.out⟩
end Go.Proofs.Ytabbceinagakfaa.K
