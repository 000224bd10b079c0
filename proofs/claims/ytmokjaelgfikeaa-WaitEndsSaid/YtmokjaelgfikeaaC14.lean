/- WaitRings. -/
import Derived.Test.YtmokjaelgfikeaaProg
import Derived.Below
import Derived.WalkKit
import Derived.KernelRfl
import Derived.RowKit
import Derived.RowKit3
import Derived.Tactics
import Derived.Deep.QuietTactic
import Derived.BigQuiet
import Derived.OwnWalk
import Derived.Outline
import Derived.Handy
import Derived.StillTailTactics
import Derived.Deep.RegionHeld3
import Derived.Deep.DeepCutAuto
import Derived.Deep.CutBlock
import Derived.Shelf.Abstract
import Derived.Shelf.SlSortCmp.QuietGrown
import Derived.Lib.SliceRun
import Derived.Sort.OwnSortedInts
import Derived.Lib.SlicesCompact
import Derived.Lib.SmallJoins
import Derived.SliceStrings
import Derived.ArgAppend
import Derived.Deep.AppendSrc
import Derived.Deep.Upon
import Derived.Deep.Slices
import Derived.ChangeSame
import Derived.Maps.OwnSet
import Derived.Maps.Range
import Derived.Maps.OwnOps
import Derived.Lib.SlKeysI
import Derived.Maps.Views
import Derived.Maps.AppendAt
import Derived.Test.YtmokjaelgfikeaaC13
namespace Go.Proofs.Ytmokjaelgfikeaa.K
open Go.RowKit
set_option linter.unusedSimpArgs false
set_option linter.unusedVariables false
attribute [local go_sem] bc_alloc2 bc_alloc3 s_alloc_drewN s_setCell_drewN bc_alloc bc_drewN bc_drew

/-- append of a number, with what it leaves alone. -/
theorem app23at {ops : Array Oper} {rest : List Oper} {o : Oper} {a : Act} {w b : World} {Q : Exit → Act → World → Prop} (hgd : o.guard = none) (s x : Operand)
    (ho : o.op = .call { callee := .builtin .append, args := #[s, x], argTypes := #[23, 23] }) (v : Value) (xs : List Int) (hs : a.eval s = v) (hown : OwnI w b v xs)
    (g : Nat) (z : Int) (hx : a.eval x = .slice (some ⟨g, 0, none⟩) 1 1) (hz : w.cell? ⟨g, 0, none⟩ = some (.int .i64 z)) (hn : xs.length + 1 ≤ 17592186044416) (hB : BelowC b w)
    (h : ∀ v' w', OwnI w' b v' (xs ++ [z]) → w.grownBy w' v.ownBlock → (v'.ownBlock = v.ownBlock ∨ v'.ownBlock = some w.heap.size) → BelowC b w' → wpList Try.prog ops Q rest (a.put o.dst v') w') : wpList Try.prog ops Q (o :: rest) a w := by
  obtain ⟨i, hi, hb, hzz, hsz⟩ := inf3
  have hml : maxLen = 9223372036854775807 := rfl
  refine wpList_append_own_at w hgd s x 23 ho b.heap.size 3 i _ 1 8 Try.underlying23 hi hzz hsz hb rfl (by decide) v xs.length (xs.map (Value.int .i64)) hs hown ⟨g, 0, none⟩ 1 1 [.int .i64 z] hx rfl (fun j u hj => by
    have hjl := (List.getElem?_eq_some_iff.1 hj).1
    match j, hjl with
    | 0, _ => cases hj; exact hz) (fun u hu => by simp at hu; subst hu; rfl) (by omega) (by omega) (bc_size hB) fun v' w' h1 h2 h3 h4 => ?_
  refine h v' w' ?_ h2 h4 (bc_grown hB h2 fun k hk => (hown.lt k hk).1)
  unfold OwnI
  rw [List.map_append, List.length_append]
  exact h1
/-- Two rows of the call's own that lie apart. -/
def ApV (u v : Value) : Prop := u.ownBlock = none ∨ v.ownBlock = none ∨ u.ownBlock ≠ v.ownBlock
theorem apv_kept {u v : Value} (h : ApV u v) : u.ownBlock = none ∨ u.ownBlock ≠ v.ownBlock := by
  rcases h with h | h | h
  · exact .inl h
  · by_cases e : u.ownBlock = none
    · exact .inl e
    · exact .inr (by rw [h]; exact e)
  · exact .inr h
theorem apv_sym {u v : Value} (h : ApV u v) : ApV v u := by
  rcases h with h | h | h
  · exact .inr (.inl h)
  · exact .inl h
  · exact .inr (.inr fun e => h e.symm)
theorem apv_new {u v v' : Value} {N : Nat} (h : ApV u v) (hat : v'.ownBlock = v.ownBlock ∨ v'.ownBlock = some N) (hu : ∀ g, u.ownBlock = some g → g < N) : ApV u v' := by
  rcases hat with e | e
  · unfold ApV
    rw [e]
    exact h
  · by_cases hn : u.ownBlock = none
    · exact .inl hn
    · refine .inr (.inr fun e2 => ?_)
      have := hu N (by rw [e2, e])
      omega
theorem ownW_lt {w b : World} {v : Value} {L : List WaitV} (h : OwnW w b v L) : ∀ g, v.ownBlock = some g → g < w.heap.size := fun g e => (h.lt g e).2
theorem ownI_lt {w b : World} {v : Value} {L : List Int} (h : OwnI w b v L) : ∀ g, v.ownBlock = some g → g < w.heap.size := fun g e => (h.lt g e).2
theorem ownI_blk {w b : World} {v : Value} {L : List Int} (h : OwnI w b v L) {g : Nat} (hg : w.heap.size ≤ g) : some g ≠ v.ownBlock := by
  intro e
  have := (h.lt g e.symm).2
  omega
theorem nsA_other {w w' : World} {v u : Value} {L : List WaitV} (h : NsA w v L) (h2 : NsA w u L) (hg : w.grownBy w' u.ownBlock) : NsA w' v L := fun x hx => by
  obtain ⟨h3, h4⟩ := h x hx
  refine ⟨ns_far h3 (h2 x hx).2 hg, fun a e => ?_⟩
  obtain ⟨g, e1, h5, h6⟩ := h4 a e
  exact ⟨g, e1, Nat.lt_of_lt_of_le h5 hg.size, h6⟩
theorem ownW_kept {w w' b : World} {v u : Value} {L : List WaitV} (h : OwnW w b v L) (hA : ApV v u) (hg : w.grownBy w' u.ownBlock) : OwnW w' b v L := World.ownsRow.kept h hg (apv_kept hA)
theorem ownI_kept {w w' b : World} {v u : Value} {L : List Int} (h : OwnI w b v L) (hA : ApV v u) (hg : w.grownBy w' u.ownBlock) : OwnI w' b v L := World.ownsRow.kept h hg (apv_kept hA)
theorem stepApp27 {ops : Array Oper} {o : Oper} {a : Act} {w b : World} {K : Act → World → Prop} {Q : Exit → Act → World → Prop} {E : Prop} (hw : Region.wanted o (yielded ops a.tmps) = true)
    (s x : Operand) (ho : o.op = .call { callee := .builtin .append, args := #[s, x], argTypes := #[27, 27] }) (v : Value) (L : List WaitV) (hs : a.eval s = v) (hown : OwnW w b v L)
    (A : Addr) (m c : Nat) (L2 : List WaitV) (hx : a.eval x = .slice (some A) m c) (hO : Wts w (some A) m L2) (hn : L.length + m ≤ 1000000) (hB : BelowC b w)
    (hK : ∀ v' w', OwnW w' b v' (L ++ L2) → BelowC b w' → K (a.put o.dst v') w') : if Region.wanted o (yielded ops a.tmps) = true then Oper.wp Try.prog o a w K Q else E := by
  rw [if_pos hw]
  obtain ⟨i, hi, hb, hz, hsz⟩ := inf41
  have hml : maxLen = 9223372036854775807 := rfl
  obtain ⟨v', w', hrun, h1, h2, h3, h4⟩ := run_append_own_at (P := Try.prog) w b.heap.size 27 o.type 41 i _ 2 32 Try.underlying27 hi hz hsz hb rfl (by decide) v L.length (L.flatMap wtCells) hown A m c (L2.flatMap wtCells) (by rw [wflat_len, hO.1]) (wts_news hO) (wts_one L2) (by omega) (by omega) (bc_size hB)
  unfold Oper.wp
  simp [execOp, ho, resolve, invoke, builtin, hs, hx, hrun, Result.andThen]
  refine hK v' w' ?_ (bc_grown hB h2 fun k hk => (hown.lt k hk).1)
  unfold OwnW
  rw [List.flatMap_append, List.length_append, ← hO.1]
  exact h1
theorem tmod_nat (i n : Nat) : Int.tmod (i : Int) (n : Int) = ((i % n : Nat) : Int) := by
  rw [Int.tmod_eq_emod_of_nonneg (Int.natCast_nonneg i)]
  simp
theorem wts_take {w : World} {A : Option Addr} {n k : Nat} {L : List WaitV} (h : Wts w A n L) (hk : k ≤ n) : Wts w A k (L.take k) := by
  obtain ⟨h1, h2, h3⟩ := h
  refine ⟨by rw [List.length_take]; omega, by omega, fun h0 => ?_⟩
  obtain ⟨b, o, e, hlt, hc⟩ := h3 (by omega)
  exact ⟨b, o, e, hlt, fun i hi => by rw [List.getElem_take]; exact hc i (by rw [List.length_take] at hi; omega)⟩
theorem wts_drop {w : World} {g o n k : Nat} {L : List WaitV} (h : Wts w (some ⟨g, o, none⟩) n L) (hk : k ≤ n) : Wts w (some ⟨g, o + k * 2, none⟩) (n - k) (L.drop k) := by
  obtain ⟨h1, h2, h3⟩ := h
  refine ⟨by rw [List.length_drop]; omega, by omega, fun h0 => ?_⟩
  obtain ⟨b, o', e, hlt, hc⟩ := h3 (by omega)
  cases e
  refine ⟨g, o + k * 2, rfl, hlt, fun i hi => ?_⟩
  rw [List.length_drop] at hi
  rw [List.getElem_drop]
  have := hc (k + i) (by omega)
  rw [show o + (k + i) * 2 = o + k * 2 + i * 2 by omega] at this
  exact this
set_option maxRecDepth 100000 in
set_option maxHeartbeats 8000000 in
theorem Rings (AL AA AN : Option Addr) (nL cL nA cA nN cN : Nat) (w : World) : Calls Try.prog 4 #[.agg #[.slice AL nL cL, .slice AA nA cA, .slice AN nN cN]] w (Ret (.bool true) w) := by
  have h0 := bc_refl w
  obtain ⟨wb, hA, hAA, hsz, rr0, rr1, rr2⟩ : ∃ wb : World, BelowC w wb ∧ BelowC wb (w.alloc (.cells #[.slice AL nL cL, .slice AA nA cA, .slice AN nN cN] 25)) ∧ w.heap.size + 1 ≤ wb.heap.size ∧ (∀ w', BelowC wb w' → w'.cell? ⟨w.heap.size, 0, none⟩ = some (.slice AL nL cL)) ∧ (∀ w', BelowC wb w' → w'.cell? ⟨w.heap.size, 1, none⟩ = some (.slice AA nA cA)) ∧ (∀ w', BelowC wb w' → w'.cell? ⟨w.heap.size, 2, none⟩ = some (.slice AN nN cN)) := ⟨_, bc_alloc (bc_refl _) _, bc_refl _, by simp, bc_cell (by go_simp) (by first | (simp; done) | (simp; omega)), bc_cell (by go_simp) (by first | (simp; done) | (simp; omega)), bc_cell (by go_simp) (by first | (simp; done) | (simp; omega))⟩
  have HA := hid hA
  go_enter Try.func4, Try.ntmps4
  go_wp2_with (first | (go_at_call 17; (fail_if_success have := HX); refine (Within5 _ _).mono ?_; rintro e v1 ⟨r, hr, rfl, hb⟩; have HX : BelowC wb v1 := bc_trans (by repeat (with_reducible first | assumption | exact bc_refl _ | apply bc_alloc | apply bc_drewN | apply bc_drew)) hb; clear hb) | (go_at_call 17; refine (Within7 _ _).mono ?_; rintro e v2 ⟨b, hb7, rfl, hb⟩; have HX2 : BelowC wb v2 := bc_trans HX hb; clear hb))
  have HXX := hid HX2
  clear HX HX2
  have dz : ((2 : Int) + (r : Int) == 0) = false := by simp; omega
  go_loopg [5, 6, 7, 8] (r + 2) (fun g u5 u6 y7 y8 wr => ∃ (k yn : Nat) (L : List WaitV), k ≤ r + 2 ∧ g = r + 2 - k ∧ y7 = .int .i64 yn ∧ y8 = .int .i64 k ∧ Hid (OwnW wr w u5 L) ∧ Hid (OwnI wr w u6 (ageL (r + 2) b k)) ∧ Hid (NsA wr u5 L) ∧ Hid (NsA wr u6 L) ∧ Hid (ApV u5 u6) ∧ Hid (StepP (ringG (r + 2)) L ∧ L.length = k) ∧ Hid ((yn = 0 ∨ yn < k) ∧ ∀ j, j < k → ageG (r + 2) b j ≤ ageG (r + 2) b yn) ∧ BelowC w wr)
  case atStart => exact ⟨0, 0, [], by omega, by omega, rfl, rfl, hid (ownW_nil _ _), hid (ownI_nil _ _), hid (nsA_nil _ _), hid (nsA_nil _ _), hid (.inl rfl), hid ⟨fun i hi => absurd hi (by simp), rfl⟩, hid ⟨.inl rfl, fun j hj => absurd hj (by omega)⟩, bc_trans HA.out HXX.out⟩
  case round =>
    obtain ⟨k, yn, L, hk, rfl, rfl, rfl, HO5, HO6, HN5, HN6, HAP, HP, HY, HK⟩ := hrel
    rename World => wK
    by_cases hlt : k < r + 2
    · have d1 : decide ((k : Int) < 2 + (r : Int)) = true := decide_eq_true (by omega)
      have i1 : (k : Int) < 2 + (r : Int) := by omega
      obtain ⟨gk, hgk⟩ : ∃ gk, gk = ringG (r + 2) k := ⟨_, rfl⟩
      have ht1 : ((k : Int) + 1).tmod (2 + (r : Int)) = gk := by rw [hgk, ringG, ← tmod_nat]; congr 1 <;> omega
      obtain ⟨ak, hak⟩ : ∃ ak : Int, ak = (((k + b) % (r + 2) : Nat) : Int) := ⟨_, rfl⟩
      have ht2 : ((k : Int) + (b : Int)).tmod (2 + (r : Int)) = ak := by rw [hak, ← tmod_nat]; congr 1 <;> omega
      have hak0 : 0 ≤ ak := by omega
      have hak1 : ak ≤ 10 := by have := Nat.mod_lt (k + b) (show 0 < r + 2 by omega); omega
      have HGK := hid hgk
      have HAK := hid hak
      clear hgk hak
      have HZN := hid (one_ns wK gk)
      have HZW := hid (one_wt (wK.alloc (.cells #[.int .i64 gk] 3)) ⟨(k : Int), some ⟨wK.heap.size, 0, none⟩, 1, 1, [gk]⟩ HZN.out (wK.heap.size + 1) (by simp))
      have hz1 : ∀ u : Value, (∀ g, wK.heap.size ≤ g → some g ≠ u.ownBlock) → NsA ((wK.alloc (.cells #[.int .i64 gk] 3)).alloc (.cells #[.int .i64 (k : Int), .slice (some ⟨wK.heap.size, 0, none⟩) 1 1] 41)) u [⟨(k : Int), some ⟨wK.heap.size, 0, none⟩, 1, 1, [gk]⟩] := fun u hu x hx => by
        obtain rfl := List.mem_singleton.1 hx
        exact ⟨HZN.out.below (bc_alloc (bc_refl _) _), fun a e => by cases e; exact ⟨_, rfl, by simp; omega, hu _ (Nat.le_refl _)⟩⟩
      have M5 := hid (nsA_app (nsA_below HN5.out (bc_alloc2 (bc_refl _) _ _)) (hz1 _ (fun g hg => own_blk HO5.out hg)))
      have M6 := hid (nsA_app (nsA_below HN6.out (bc_alloc2 (bc_refl _) _ _)) (hz1 _ (fun g hg => ownI_blk HO6.out hg)))
      clear hz1
      go_wp2_with (at_builtin; (fail_if_success have := hcs); refine pause ?_)
      unfold Pause
      refine app27 (b := w) rfl (.tmp 39) (.tmp 47) rfl _ L rfl (ownW_below HO5.out (bc_alloc2 (bc_refl _) _ _)) ⟨wK.heap.size + 1, 0, none⟩ 1 1 [⟨(k : Int), some ⟨wK.heap.size, 0, none⟩, 1, 1, [gk]⟩] rfl HZW.out (by have := HP.out.2; omega) (bc_alloc2 HK _ _) ?_
      intro v5 w1 hO1 hg1 hat1 hB1
      have HO51 := hid hO1
      have HN51 := hid (nsA_step M5.out hg1 hat1)
      have HN61 := hid (nsA_other M6.out M5.out hg1)
      have HO61 := hid (ownI_kept (ownI_below HO6.out (bc_alloc2 (bc_refl _) _ _)) (apv_sym HAP.out) hg1)
      have HAP1 := hid (apv_sym (apv_new (apv_sym HAP.out) hat1 (ownI_lt (ownI_below HO6.out (bc_alloc2 (bc_refl _) _ _)))))
      clear hO1 hg1 hat1
      go_wp2_with (at_builtin; (fail_if_success have := hcs); refine pause ?_)
      unfold Pause
      refine app23at (b := w) rfl (.tmp 49) (.tmp 56) rfl _ (ageL (r + 2) b k) rfl (ownI_below HO61.out (bc_alloc (bc_refl _) _)) w1.heap.size (1 + ak) rfl (one_int _ _) (by rw [ageL_len]; omega) (bc_alloc hB1 _) ?_
      intro v6 w2 hO2 hg2 hat2 hB2
      have eak : (1 : Int) + ak = ageG (r + 2) b k := by rw [HAK.out]; rfl
      have HO52 := hid (ownW_kept (ownW_below HO51.out (bc_alloc (bc_refl _) _)) HAP1.out hg2)
      have HN62 := hid (nsA_step (nsA_below HN61.out (bc_alloc (bc_refl _) _)) hg2 hat2)
      have HN52 := hid (nsA_other (nsA_below HN51.out (bc_alloc (bc_refl _) _)) (nsA_below HN61.out (bc_alloc (bc_refl _) _)) hg2)
      have HAP2 := hid (apv_new HAP1.out hat2 (ownW_lt (ownW_below HO51.out (bc_alloc (bc_refl _) _))))
      rw [eak, ← ageL_succ] at hO2
      obtain ⟨A6, n6, c6, rfl, hn6, -, hN6, hA6⟩ := ownI_form hO2
      obtain rfl : n6 = k + 1 := by rw [hn6, ageL_len]
      obtain ⟨g6, o6, rfl, _, _⟩ := hN6.2.2 (by omega)
      obtain ⟨g6', e6, -, -⟩ := hA6 _ rfl
      cases e6
      have c1 := ownI_at hO2 hn6 (j := k) (by rw [ageL_len]; omega)
      have hyk : yn < k + 1 := by have := HY.out.1; omega
      have c2 := ownI_at hO2 hn6 (j := yn) (by rw [ageL_len]; exact hyk)
      rw [ageL_get] at c1 c2
      have HO62 := hid hO2
      have HYK := hid hyk
      clear hO2 hg2 hat2 hn6 hN6 hA6 eak
      have i2 : (k : Int) < ((k + 1 : Nat) : Int) := by omega
      have i3 : (yn : Int) < ((k + 1 : Nat) : Int) := by omega
      have HZL : Hid (StepP (ringG (r + 2)) (L ++ [⟨(k : Int), some ⟨wK.heap.size, 0, none⟩, 1, 1, [gk]⟩]) ∧ (L ++ [(⟨(k : Int), some ⟨wK.heap.size, 0, none⟩, 1, 1, [gk]⟩ : WaitV)]).length = k + 1) := hid ⟨step_app HP.out.1 (by rw [HP.out.2]) (by rw [HP.out.2, HGK.out]), by rw [List.length_append, HP.out.2]; rfl⟩
      go_upto_region 11 with fail
      have HGT : Hid (ageG (r + 2) b yn < ageG (r + 2) b k → ∀ j, j < k + 1 → ageG (r + 2) b j ≤ ageG (r + 2) b k) := hid (fun h j hj => by
        by_cases e : j = k
        · rw [e]; exact Int.le_refl _
        · have := HY.out.2 j (by omega); omega)
      have HLE : Hid (¬ ageG (r + 2) b yn < ageG (r + 2) b k → ∀ j, j < k + 1 → ageG (r + 2) b j ≤ ageG (r + 2) b yn) := hid (fun h j hj => by
        by_cases e : j = k
        · rw [e]; omega
        · exact HY.out.2 j (by omega))
      generalize hx1 : ageG (r + 2) b k = a1 at c1 HGT HLE
      generalize hx2 : ageG (r + 2) b yn = a2 at c2 HGT HLE
      have HX1 := hid hx1
      have HX2 := hid hx2
      clear hx1 hx2
      by_cases hgt : a2 < a1
      · have dg : decide (a2 < a1) = true := decide_eq_true hgt
        have HMX := hid (HGT.out hgt)
        go_quiet (fail)
        go_wp2_with fail
        go_roundg (r + 2 - (k + 1))
        case measure => omega
        case rel => exact ⟨k + 1, k, _, by omega, rfl, rfl, by go_num, HO52, HO62, HN52, HN62, HAP2, HZL, hid ⟨.inr (by omega), fun j hj => by rw [HX1.out]; exact HMX.out j hj⟩, bc_drewN hB2 _⟩
      · have dg : decide (a2 < a1) = false := decide_eq_false hgt
        have HMX := hid (HLE.out hgt)
        go_quiet (fail)
        go_wp2_with fail
        go_roundg (r + 2 - (k + 1))
        case measure => omega
        case rel => exact ⟨k + 1, yn, _, by omega, rfl, rfl, by go_num, HO52, HO62, HN52, HN62, HAP2, HZL, hid ⟨.inr (by have := HYK.out; omega), fun j hj => by rw [HX2.out]; exact HMX.out j hj⟩, bc_drewN hB2 _⟩
    · have d1 : decide ((k : Int) < 2 + (r : Int)) = false := decide_eq_false (by omega)
      have hk2 : k = r + 2 := by omega
      subst hk2
      obtain ⟨A, n, c, rfl, hnL, hnc, hW⟩ := ownW_form HO5.out (nsA_ns HN5.out)
      obtain rfl : n = r + 2 := hnL.trans HP.out.2
      obtain ⟨A6, n6, c6, rfl, hn6, -, hN6, -⟩ := ownI_form HO6.out
      obtain rfl : n6 = r + 2 := by rw [hn6, ageL_len]
      obtain ⟨gA, oA, rfl, -, -⟩ := hW.2.2 (by omega)
      obtain ⟨g6, o6, rfl, -, -⟩ := hN6.2.2 (by omega)
      have HW := hid hW
      have HAG := hid hN6
      have HST := hid HP.out.1
      have HLR := hid HP.out.2
      have HNW := hid (nsA_ns HN5.out)
      have HMX := hid HY.out.2
      have hyn : yn < r + 2 := by have := HY.out.1; omega
      have HMY := hid (step_may HST.out (fun i hi => ⟨(ring_step (by omega) (by have := HLR.out; omega : i < r + 2)).1, (ring_step (by omega) (by have := HLR.out; omega : i < r + 2)).2.1⟩) (by have := HLR.out; omega : L.length ≤ 6))
      have HWF := hid (step_wf HST.out (fun i hi => ⟨(ring_step (by omega) (by have := HLR.out; omega : i < r + 2)).1, by have := (ring_step (n := r + 2) (by omega) (by have := HLR.out; omega : i < r + 2)).2.2; omega⟩))
      have HSM := hid (step_sum HST.out (by have := HLR.out; omega : L.length ≤ 6))
      have HGD := hid (ring_aged (b := b) (by omega : 0 < r + 2) HST.out HLR.out)
      have hKK := bc_refl wK
      have HNC := hid hnc
      clear hnL hnc hW hn6 hN6 HO6 HN5 HN6 HAP HP HY
      go_wp2_with fail
      go_loopg [9, 10, 11, 12, 13] (r + 2) (fun g y _ _ _ _ wr => ∃ o : Nat, o ≤ r + 2 ∧ g = r + 2 - o ∧ y = .int .i64 o ∧ BelowC wK wr)
      case atStart => exact ⟨0, by omega, by omega, rfl, hKK⟩
      case round =>
        obtain ⟨o, ho, rfl, rfl, HZ⟩ := hrel
        rename World => wZ
        by_cases hlo : o < r + 2
        · have d2 : decide ((o : Int) < 2 + (r : Int)) = true := decide_eq_true (by omega)
          have i2 : (o : Int) < 2 + (r : Int) := by omega
          go_upto_region 18 with (first | (go_at_call 11; refine (Circle (some ⟨gA, oA, none⟩) (r + 2) c L o _ (HW.out.below HZ) HMY.out HWF.out HSM.out).mono ?_; rintro e v3 ⟨A3, n3, c3, ys, rfl, -, hn3, hy, hb⟩; have HX3 : BelowC wK v3 := bc_trans HZ hb; obtain rfl : n3 = r + 2 := (by rw [hn3, ring_round HST.out HLR.out (by omega : o < r + 2) hy]; simp); clear hb hy hn3) | (go_at_call 12; refine (Victim (some ⟨gA, oA, none⟩) (some ⟨g6, o6, none⟩) (r + 2) (r + 2) c c6 L (ageL (r + 2) b (r + 2)) o _ (HW.out.below HX3) (HAG.out.below HX3) HMY.out HWF.out HSM.out (age_unlike hr hb7) (age_wf hr) (by omega) HGD.out).mono ?_; rintro e v4 ⟨m, E, rfl, hv, hb⟩; have HX4 : BelowC wK v4 := bc_trans HX3 hb; obtain ⟨rfl, rfl⟩ := ring_vic hr hb7 HST.out HLR.out (by omega : o < r + 2) (by omega : yn < r + 2) HMX.out hv; clear hb hv))
          have e1 : (((r + 2 : Nat) : Int) != 2 + (r : Int)) = false := by simp; omega
          have e2 : ((r : Int) + 2 != 2 + (r : Int)) = false := by simp; omega
          go_wp2_with (go_at_call 13; refine (num' _ _).mono ?_; rintro ee _ ⟨rfl, rfl⟩)
          go_roundg (r + 2 - (o + 1))
          case measure => omega
          case rel => exact ⟨o + 1, by omega, rfl, by go_num, HX4⟩
        · have d2 : decide ((o : Int) < 2 + (r : Int)) = false := decide_eq_false (by omega)
          go_wp2_with fail
          have HZZ := hid HZ
          clear HZ d2
          go_loopg [14, 15, 16, 17, 18, 19, 20] (r + 2) (fun g y _ _ _ _ _ _ wr => ∃ k : Nat, k ≤ r + 2 ∧ g = r + 2 - k ∧ y = .int .i64 k ∧ BelowC wK wr)
          case atStart => exact ⟨0, by omega, by omega, rfl, HZZ.out⟩
          case round =>
            obtain ⟨k, hk, rfl, rfl, HB⟩ := hrel
            rename World => wB
            by_cases hlt3 : k < r + 2
            rotate_left
            · have d3 : decide ((k : Int) < 2 + (r : Int)) = false := decide_eq_false (by omega)
              go_wp2_with (go_at_call 16; refine (wakes _).mono ?_; rintro e v9 ⟨rfl, hb⟩; have HX9 : BelowC w v9 := bc_step (bc_trans HK HB) hb; clear hb)
              go_returns
              exact ⟨rfl, HX9⟩
            have d3 : decide ((k : Int) < 2 + (r : Int)) = true := decide_eq_true (by omega)
            have i3 : (k : Int) < 2 + (r : Int) := by omega
            have hc := HNC.out
            have HWB := hid (HW.out.below HB)
            have hBB := bc_refl wB
            go_upto_region 23 with fail
            go_cut [15] (fun y wc => ∃ A n c, y = .slice A n c ∧ Hid (Wts wc A n (L.eraseIdx k)) ∧ BelowC wB wc)
            case first =>
              have f1 : (0 : Int) ≤ (k : Int) := by omega
              have f2 : (k : Int) ≤ (c : Int) := by omega
              have f3 : (0 : Int) ≤ (k : Int) + 1 := by omega
              have f4 : (k : Int) + 1 ≤ ((r + 2 : Nat) : Int) := by omega
              have f5 : (k : Int) + 1 ≤ (r : Int) + 2 := by omega
              have f6 : IntKind.i64.wrap ((k : Int) + 1) = (k : Int) + 1 := IntWalk.i64_in _ ⟨by omega, by omega⟩
              have f7 : wrap64 ((k : Int) + 1) = (k : Int) + 1 := by simp only [wrap64]; omega
              have f8 : ((k : Int) + 1).toNat = k + 1 := by omega
              have f9 : k + 1 ≤ r + 2 := by omega
              have f10 : k ≤ c := by omega
              have f11 : (r : Int) + 2 ≤ (c : Int) := by omega
              have f12 : ¬ c = 0 := by omega
              by_cases hck : c = k + 1
              · subst hck
                have f13 : (k : Int) ≤ (k : Int) + 1 := by omega
                have f14 : k ≤ k + 1 := by omega
                go_region_held3 (fun w' => BelowC wB w') (repeat (with_reducible first | assumption | exact bc_refl _ | apply bc_alloc | apply bc_drewN | apply bc_drew)) (first | (refine stepApp27 (b := wB) rfl (.tmp 110) (.tmp 113) rfl (.slice (some ⟨wB.heap.size, 0, none⟩) 0 0) [] rfl (World.ownsRow_made _ #[] 0 (by simp) (by decide) rfl) ⟨gA, oA, none⟩ k (k + 1) (L.take k) rfl (wts_take (HWB.out.below (by repeat (with_reducible first | assumption | exact bc_refl _ | apply bc_alloc | apply bc_drewN | apply bc_drew))) (by omega)) (by simp; omega) (by repeat (with_reducible first | assumption | exact bc_refl _ | apply bc_alloc | apply bc_drewN | apply bc_drew)) ?_; intro va wa hOa hBa; have HOa := hid hOa; clear hOa) | (refine stepApp27 (b := wB) rfl (.tmp 114) (.tmp 118) rfl va ([] ++ L.take k) rfl HOa.out ⟨gA, oA, none⟩ 0 0 (L.drop (k + 1)) rfl ⟨by rw [List.length_drop, HLR.out]; omega, by omega, fun h => absurd h (by omega)⟩ (by simp; omega) (by repeat (with_reducible first | assumption | exact bc_refl _ | apply bc_alloc | apply bc_drewN | apply bc_drew)) ?_; intro vb wb2 hOb hBb; have HOb := hid hOb; clear hOb) | (refine stepApp27 (b := wB) rfl (.tmp 114) (.tmp 118) rfl va ([] ++ L.take k) rfl HOa.out ⟨gA, oA, none⟩ 0 (k + 1 - (k + 1)) (L.drop (k + 1)) rfl ⟨by rw [List.length_drop, HLR.out]; omega, by omega, fun h => absurd h (by omega)⟩ (by simp; omega) (by repeat (with_reducible first | assumption | exact bc_refl _ | apply bc_alloc | apply bc_drewN | apply bc_drew)) ?_; intro vb wb2 hOb hBb; have HOb := hid hOb; clear hOb) | (refine stepApp27 (b := wB) rfl (.tmp 114) (.tmp 118) rfl va ([] ++ L.take k) rfl HOa.out ⟨gA, oA, none⟩ (r + 1 - k) 0 (L.drop (k + 1)) rfl ⟨by rw [List.length_drop, HLR.out]; omega, by omega, fun h => absurd h (by omega)⟩ (by simp; omega) (by repeat (with_reducible first | assumption | exact bc_refl _ | apply bc_alloc | apply bc_drewN | apply bc_drew)) ?_; intro vb wb2 hOb hBb; have HOb := hid hOb; clear hOb) | (refine stepApp27 (b := wB) rfl (.tmp 114) (.tmp 118) rfl va ([] ++ L.take k) rfl HOa.out ⟨gA, oA, none⟩ (r + 1 - k) (k + 1 - (k + 1)) (L.drop (k + 1)) rfl ⟨by rw [List.length_drop, HLR.out]; omega, by omega, fun h => absurd h (by omega)⟩ (by simp; omega) (by repeat (with_reducible first | assumption | exact bc_refl _ | apply bc_alloc | apply bc_drewN | apply bc_drew)) ?_; intro vb wb2 hOb hBb; have HOb := hid hOb; clear hOb) | (refine stepApp27 (b := wB) rfl (.tmp 114) (.tmp 118) rfl va ([] ++ L.take k) rfl HOa.out ⟨gA, oA, none⟩ (r + 2 - (k + 1)) 0 (L.drop (k + 1)) rfl ⟨by rw [List.length_drop, HLR.out]; omega, by omega, fun h => absurd h (by omega)⟩ (by simp; omega) (by repeat (with_reducible first | assumption | exact bc_refl _ | apply bc_alloc | apply bc_drewN | apply bc_drew)) ?_; intro vb wb2 hOb hBb; have HOb := hid hOb; clear hOb) | (refine stepApp27 (b := wB) rfl (.tmp 114) (.tmp 118) rfl va ([] ++ L.take k) rfl HOa.out ⟨gA, oA, none⟩ (r + 2 - (k + 1)) (k + 1 - (k + 1)) (L.drop (k + 1)) rfl ⟨by rw [List.length_drop, HLR.out]; omega, by omega, fun h => absurd h (by omega)⟩ (by simp; omega) (by repeat (with_reducible first | assumption | exact bc_refl _ | apply bc_alloc | apply bc_drewN | apply bc_drew)) ?_; intro vb wb2 hOb hBb; have HOb := hid hOb; clear hOb) | (refine stepApp27 (b := wB) rfl (.tmp 114) (.tmp 118) rfl va ([] ++ L.take k) rfl HOa.out ⟨gA, oA + (k + 1) * 2, none⟩ 0 0 (L.drop (k + 1)) rfl ⟨by rw [List.length_drop, HLR.out]; omega, by omega, fun h => absurd h (by omega)⟩ (by simp; omega) (by repeat (with_reducible first | assumption | exact bc_refl _ | apply bc_alloc | apply bc_drewN | apply bc_drew)) ?_; intro vb wb2 hOb hBb; have HOb := hid hOb; clear hOb) | (refine stepApp27 (b := wB) rfl (.tmp 114) (.tmp 118) rfl va ([] ++ L.take k) rfl HOa.out ⟨gA, oA + (k + 1) * 2, none⟩ 0 (k + 1 - (k + 1)) (L.drop (k + 1)) rfl ⟨by rw [List.length_drop, HLR.out]; omega, by omega, fun h => absurd h (by omega)⟩ (by simp; omega) (by repeat (with_reducible first | assumption | exact bc_refl _ | apply bc_alloc | apply bc_drewN | apply bc_drew)) ?_; intro vb wb2 hOb hBb; have HOb := hid hOb; clear hOb) | (refine stepApp27 (b := wB) rfl (.tmp 114) (.tmp 118) rfl va ([] ++ L.take k) rfl HOa.out ⟨gA, oA + (k + 1) * 2, none⟩ (r + 1 - k) 0 (L.drop (k + 1)) rfl ⟨by rw [List.length_drop, HLR.out]; omega, by omega, fun h => absurd h (by omega)⟩ (by simp; omega) (by repeat (with_reducible first | assumption | exact bc_refl _ | apply bc_alloc | apply bc_drewN | apply bc_drew)) ?_; intro vb wb2 hOb hBb; have HOb := hid hOb; clear hOb) | (refine stepApp27 (b := wB) rfl (.tmp 114) (.tmp 118) rfl va ([] ++ L.take k) rfl HOa.out ⟨gA, oA + (k + 1) * 2, none⟩ (r + 1 - k) (k + 1 - (k + 1)) (L.drop (k + 1)) rfl ⟨by rw [List.length_drop, HLR.out]; omega, by omega, fun h => absurd h (by omega)⟩ (by simp; omega) (by repeat (with_reducible first | assumption | exact bc_refl _ | apply bc_alloc | apply bc_drewN | apply bc_drew)) ?_; intro vb wb2 hOb hBb; have HOb := hid hOb; clear hOb) | (refine stepApp27 (b := wB) rfl (.tmp 114) (.tmp 118) rfl va ([] ++ L.take k) rfl HOa.out ⟨gA, oA + (k + 1) * 2, none⟩ (r + 2 - (k + 1)) 0 (L.drop (k + 1)) rfl ⟨by rw [List.length_drop, HLR.out]; omega, by omega, fun h => absurd h (by omega)⟩ (by simp; omega) (by repeat (with_reducible first | assumption | exact bc_refl _ | apply bc_alloc | apply bc_drewN | apply bc_drew)) ?_; intro vb wb2 hOb hBb; have HOb := hid hOb; clear hOb) | (refine stepApp27 (b := wB) rfl (.tmp 114) (.tmp 118) rfl va ([] ++ L.take k) rfl HOa.out ⟨gA, oA + (k + 1) * 2, none⟩ (r + 2 - (k + 1)) (k + 1 - (k + 1)) (L.drop (k + 1)) rfl ⟨by rw [List.length_drop, HLR.out]; omega, by omega, fun h => absurd h (by omega)⟩ (by simp; omega) (by repeat (with_reducible first | assumption | exact bc_refl _ | apply bc_alloc | apply bc_drewN | apply bc_drew)) ?_; intro vb wb2 hOb hBb; have HOb := hid hOb; clear hOb))
                all_goals
                  go_wp2_with fail
                  obtain ⟨An, nn, cn, rfl, hnn, -, hWn⟩ := ownW_form HOb.out (fun x hx => (HNW.out x (by
                    rcases List.mem_append.1 hx with h | h
                    · exact List.mem_of_mem_take (by simpa using h)
                    · exact List.mem_of_mem_drop h)).below (bc_trans HB (by repeat (with_reducible first | assumption | exact bc_refl _ | apply bc_alloc | apply bc_drewN | apply bc_drew))))
                  have e : [] ++ L.take k ++ L.drop (k + 1) = L.eraseIdx k := by rw [List.nil_append, List.eraseIdx_eq_take_drop_succ]
                  rw [e] at hWn
                  have HWn := hid hWn
                  clear hnn hWn e
                  go_meet
                  case rel => exact ⟨An, nn, cn, rfl, HWn, by repeat (with_reducible first | assumption | exact bc_refl _ | apply bc_alloc | apply bc_drewN | apply bc_drew)⟩
              · go_region_held3 (fun w' => BelowC wB w') (repeat (with_reducible first | assumption | exact bc_refl _ | apply bc_alloc | apply bc_drewN | apply bc_drew)) (first | (refine stepApp27 (b := wB) rfl (.tmp 110) (.tmp 113) rfl (.slice (some ⟨wB.heap.size, 0, none⟩) 0 0) [] rfl (World.ownsRow_made _ #[] 0 (by simp) (by decide) rfl) ⟨gA, oA, none⟩ k c (L.take k) rfl (wts_take (HWB.out.below (by repeat (with_reducible first | assumption | exact bc_refl _ | apply bc_alloc | apply bc_drewN | apply bc_drew))) (by omega)) (by simp; omega) (by repeat (with_reducible first | assumption | exact bc_refl _ | apply bc_alloc | apply bc_drewN | apply bc_drew)) ?_; intro va wa hOa hBa; have HOa := hid hOa; clear hOa) | (refine stepApp27 (b := wB) rfl (.tmp 114) (.tmp 118) rfl va ([] ++ L.take k) rfl HOa.out ⟨gA, oA + (k + 1) * 2, none⟩ (r + 1 - k) (c - (k + 1)) (L.drop (k + 1)) rfl (by rw [show r + 1 - k = r + 2 - (k + 1) by omega]; exact wts_drop (HWB.out.below (by repeat (with_reducible first | assumption | exact bc_refl _ | apply bc_alloc | apply bc_drewN | apply bc_drew))) f9) (by simp; omega) (by repeat (with_reducible first | assumption | exact bc_refl _ | apply bc_alloc | apply bc_drewN | apply bc_drew)) ?_; intro vb wb2 hOb hBb; have HOb := hid hOb; clear hOb))
                all_goals
                  go_wp2_with fail
                  obtain ⟨An, nn, cn, rfl, hnn, -, hWn⟩ := ownW_form HOb.out (fun x hx => (HNW.out x (by
                    rcases List.mem_append.1 hx with h | h
                    · exact List.mem_of_mem_take (by simpa using h)
                    · exact List.mem_of_mem_drop h)).below (bc_trans HB (by repeat (with_reducible first | assumption | exact bc_refl _ | apply bc_alloc | apply bc_drewN | apply bc_drew))))
                  have e : [] ++ L.take k ++ L.drop (k + 1) = L.eraseIdx k := by rw [List.nil_append, List.eraseIdx_eq_take_drop_succ]
                  rw [e] at hWn
                  have HWn := hid hWn
                  clear hnn hWn e
                  go_meet
                  case rel => exact ⟨An, nn, cn, rfl, HWn, by repeat (with_reducible first | assumption | exact bc_refl _ | apply bc_alloc | apply bc_drewN | apply bc_drew)⟩
            case rest =>
            obtain ⟨Ax, nx, cx, rfl, HXW, HWc⟩ := hcut
            have HWC := hid (bc_trans HB HWc)
            have HSUB := List.eraseIdx_sublist L k
            have HM2 := hid (may_sub HSUB HMY.out)
            have HW2 := hid (wf_sub HSUB HWF.out)
            have HS2 := hid (sum_sub HSUB HST.out (by have := HLR.out; omega : L.length ≤ 6))
            have HG2 := hid (aged_sub HSUB HGD.out)
            have HLT := hid hlt3
            have hcc := bc_refl wc
            clear HSUB HWc hBB
            go_wp2_with fail
            go_loopg [16, 17, 18, 19, 20] (r + 2) (fun g y _ _ _ _ wr => ∃ o : Nat, o ≤ r + 2 ∧ g = r + 2 - o ∧ y = .int .i64 o ∧ BelowC wc wr)
            case atStart => exact ⟨0, by omega, by omega, rfl, hcc⟩
            case round =>
              clear hcc
              obtain ⟨o, ho, rfl, rfl, HZ⟩ := hrel
              rename World => wZ
              by_cases hlo : o < r + 2
              · have d4 : decide ((o : Int) < 2 + (r : Int)) = true := decide_eq_true (by omega)
                have i4 : (o : Int) < 2 + (r : Int) := by omega
                go_wp2_with (first | (go_at_call 11; refine (Circle Ax nx cx (L.eraseIdx k) o _ (HXW.out.below HZ) HM2.out HW2.out HS2.out).mono ?_; rintro e v3 ⟨A3, n3, c3, ys, rfl, -, hn3, hy, hb⟩; have HX3 : BelowC wc v3 := bc_trans HZ hb; obtain rfl := cut_round HST.out HLR.out HLT.out hy; obtain rfl : n3 = 0 := hn3; clear hb hy) | (go_at_call 12; refine (Victim Ax (some ⟨g6, o6, none⟩) nx (r + 2) cx c6 (L.eraseIdx k) (ageL (r + 2) b (r + 2)) o _ (HXW.out.below HX3) (HAG.out.below (bc_trans HWC.out HX3)) HM2.out HW2.out HS2.out (age_unlike hr hb7) (age_wf hr) (by omega) HG2.out).mono ?_; rintro e v4 ⟨m, E, rfl, hv, hb⟩; have HX4 : BelowC wc v4 := bc_trans HX3 hb; obtain ⟨rfl, rfl⟩ := cut_vic HST.out HLR.out HLT.out hv; clear hb hv) | (go_at_call 13; refine (num' _ _).mono ?_; rintro ee _ ⟨rfl, rfl⟩))
                go_roundg (r + 2 - (o + 1))
                case measure => omega
                case rel => exact ⟨o + 1, by omega, rfl, by go_num, HX4⟩
              · have d4 : decide ((o : Int) < 2 + (r : Int)) = false := decide_eq_false (by omega)
                go_wp2_with fail
                go_roundg (r + 2 - (k + 1))
                case measure => omega
                case rel => exact ⟨k + 1, by omega, rfl, by go_num, bc_trans HWC.out HZ⟩
end Go.Proofs.Ytmokjaelgfikeaa.K
