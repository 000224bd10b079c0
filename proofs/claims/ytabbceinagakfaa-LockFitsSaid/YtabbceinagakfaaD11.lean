/- lock.Without, Free, Of, Count, Own, Held, Covers, Check. -/
import Derived.Test.YtabbceinagakfaaProg
import Derived.Below
import Derived.WalkKit
import Derived.KernelRfl
import Derived.RowKit
import Derived.RowKit3
import Derived.Tactics
import Derived.Deep.QuietTactic
import Derived.BigQuiet
import Derived.OwnWalk
import Derived.Outline
import Derived.Handy
import Derived.StillTailTactics
import Derived.Deep.RegionHeld3
import Derived.Deep.DeepCutAuto
import Derived.Deep.CutBlock
import Derived.Shelf.Abstract
import Derived.Shelf.SlSortCmp.QuietGrown
import Derived.Lib.SliceRun
import Derived.Lib.SmallJoins
import Derived.SliceStrings
import Derived.ArgAppend
import Derived.Deep.Slices
import Derived.ChangeSame
import Derived.Lib.Strings
import Derived.Test.YtabbceinagakfaaD10
namespace Go.Proofs.Ytabbceinagakfaa.K
open Go.RowKit Go.Proofs.YtabbceinagakfaaS
set_option linter.unusedSimpArgs false
set_option linter.unusedVariables false
attribute [local go_sem] s_leq s_gtr s_geq s_maxr s_minr
attribute [local go_sem] bc_alloc2 bc_alloc3 s_alloc_drewN s_setCell_drewN bc_alloc bc_drewN bc_drew

def errI (b : Bool) : Int := bif b then 0 else 1
def ownF (L : List LockV) (o : Int) (own : Bool) : List LockV := L.filter fun x => (x.owner == o) == own
theorem ownF_f (L : List LockV) (o : Int) : ownF L o false = L.filter fun x => !(x.owner == o) := by
  unfold ownF
  congr 1
  funext x
  cases x.owner == o <;> rfl
theorem ownF_t (L : List LockV) (o : Int) : ownF L o true = L.filter fun x => !(!(x.owner == o)) := by
  unfold ownF
  congr 1
  funext x
  cases x.owner == o <;> rfl
def freeL (L : List LockV) (o : Int) : List LockV := bif mayL L && decide (0 ≤ o) then ownF L o false else []
def ofL (L : List LockV) (o : Int) : List LockV := bif mayL L then ownF L o true else []
theorem own_le {w b b' : World} {v : Value} {L : List LockV} (h : OwnL w b v L) (hb : BelowC b' b) : OwnL w b' v L := Go.Joins.ownsRow_le h (bc_size hb)
/-- A slice of its own, and an error. -/
def RetLE (L : List LockV) (E : Int) (w : World) (e : Ending) (w' : World) : Prop := ∃ v, e = .returned (.tuple #[v, .int .i64 E]) ∧ OwnL w' w v L ∧ BelowC w w'
theorem box6_of (w : World) (x : LockV) : Box6 (w.alloc (.cells #[.int .i64 x.owner, .int .i64 x.table, .string x.lo, .string x.hi, .bool x.top, .int .i64 x.mode] 31)) w.heap.size x := ⟨by simp, by go_simp, by go_simp, by go_simp, by go_simp, by go_simp, by go_simp⟩
set_option maxHeartbeats 4000000 in
theorem Without (A : Option Addr) (n c : Nat) (L : List LockV) (o : Int) (w : World) (h : Lks w A n L) (hbig : n ≤ 2199023255551) : Calls Try.prog 31 #[.slice A n c, .int .i64 o] w (RetL (ownF L o false) w) := by
  have h0 := bc_refl w
  have H := hid h
  clear h
  have HP : Hid (Pred (fun x => x.owner == o) 58 #[.pointer (some ⟨w.heap.size, 0, none⟩)] (w.alloc (.cells #[.int .i64 o] 3))) := hid (fun x W hW => Lit58 o x _ W (bc_lt hW (by simp)) (bc_cell (b := w.alloc (.cells #[.int .i64 o] 3)) (by go_simp) (by simp) W hW))
  have HA := hid (bc_alloc h0 (.cells #[.int .i64 o] 3))
  go_enter Try.func31, Try.ntmps31
  go_wp2_with fail
  refine (Clone A n c L _ (H.out.below HA.out) hbig).mono ?_
  rintro e v1 ⟨v, rfl, hown, hb⟩
  have HO := hid hown
  have HB := hid hb
  clear hown hb
  go_wp2_with (go_at_call 57; refine (DeleteFunc (fun x => x.owner == o) 58 #[.pointer (some ⟨w.heap.size, 0, none⟩)] (enters_of Try.func58 (by kernel_rfl) rfl) v L _ _ HO.out HB.out HP.out).mono ?_; rintro e v2 ⟨v', rfl, ho, hb⟩; have HO2 := hid ho; have HB2 := hid hb; clear ho hb)
  go_returns
  exact ⟨_, rfl, by rw [ownF_f]; exact own_le HO2.out HA.out, bc_trans HA.out HB2.out⟩
set_option maxHeartbeats 4000000 in
theorem Free (A : Option Addr) (n c : Nat) (L : List LockV) (o : Int) (w : World) (h : Lks w A n L) (hc : n ≤ c) (hbig : n ≤ 2199023255551) : Calls Try.prog 14 #[.slice A n c, .int .i64 o] w (RetLE (freeL L o) (errI (mayL L && decide (0 ≤ o))) w) := by
  have h0 := bc_refl w
  have H := hid h
  clear h
  have HM := hid (lockMay A n c L)
  cases hm : mayL L
  · have HF : Hid (freeL L o = []) := hid (by simp [freeL, hm])
    go_enter Try.func14, Try.ntmps14
    go_wp2_with (go_at_call 26; refine (HM.out _ (H.out.below (by repeat (with_reducible first | assumption | exact bc_refl _ | apply bc_alloc | apply bc_drewN | apply bc_drew))) hc).mono ?_; rintro e v1 ⟨rfl, hb⟩; rw [hm]; have HX : BelowC w v1 := bc_step (by repeat (with_reducible first | assumption | exact bc_refl _ | apply bc_alloc | apply bc_drewN | apply bc_drew)) hb; clear hb)
    go_returns
    exact ⟨_, rfl, by rw [HF.out]; exact own_nil _ _, HX⟩
  · by_cases ho : 0 ≤ o
    · have HF : Hid (freeL L o = ownF L o false) := hid (by simp [freeL, hm, ho])
      have HE : Hid (errI (mayL L && decide (0 ≤ o)) = 0) := hid (by simp [errI, hm, ho])
      rw [hm] at HE
      have hd : decide (0 ≤ o) = true := decide_eq_true ho
      go_enter Try.func14, Try.ntmps14
      go_wp2_with (first | (go_at_call 26; refine (HM.out _ (H.out.below (by repeat (with_reducible first | assumption | exact bc_refl _ | apply bc_alloc | apply bc_drewN | apply bc_drew))) hc).mono ?_; rintro e v1 ⟨rfl, hb⟩; rw [hm]; have HX : BelowC w v1 := bc_step (by repeat (with_reducible first | assumption | exact bc_refl _ | apply bc_alloc | apply bc_drewN | apply bc_drew)) hb; clear hb) | (go_at_call 31; refine (Without A n c L o _ (H.out.below (by repeat (with_reducible first | assumption | exact bc_refl _ | apply bc_alloc | apply bc_drewN | apply bc_drew))) hbig).mono ?_; rintro e v2 ⟨v, rfl, hown, hb⟩; have HO := hid (own_le hown HX); have HY := hid (bc_trans HX hb); clear hown hb))
      go_returns
      exact ⟨v, by simp [errI, hd], by rw [HF.out]; exact HO.out, HY.out⟩
    · have HF : Hid (freeL L o = []) := hid (by simp [freeL, hm, decide_eq_false ho])
      have hd : decide (0 ≤ o) = false := decide_eq_false ho
      go_enter Try.func14, Try.ntmps14
      go_wp2_with (first | (go_at_call 26; refine (HM.out _ (H.out.below (by repeat (with_reducible first | assumption | exact bc_refl _ | apply bc_alloc | apply bc_drewN | apply bc_drew))) hc).mono ?_; rintro e v1 ⟨rfl, hb⟩; rw [hm]; have HX : BelowC w v1 := bc_step (by repeat (with_reducible first | assumption | exact bc_refl _ | apply bc_alloc | apply bc_drewN | apply bc_drew)) hb; clear hb))
      go_returns
      exact ⟨.slice none 0 0, by simp [errI, hd], by rw [HF.out]; exact own_nil _ _, HX⟩
set_option maxHeartbeats 4000000 in
theorem Of (A : Option Addr) (n c : Nat) (L : List LockV) (o : Int) (w : World) (h : Lks w A n L) (hc : n ≤ c) (hbig : n ≤ 2199023255551) : Calls Try.prog 39 #[.slice A n c, .int .i64 o] w (RetLE (ofL L o) (errI (mayL L)) w) := by
  have h0 := bc_refl w
  have H := hid h
  clear h
  have HP : Hid (Pred (fun x => !(x.owner == o)) 63 #[.pointer (some ⟨w.heap.size, 0, none⟩)] (w.alloc (.cells #[.int .i64 o] 3))) := hid (fun x W hW => Lit63 o x _ W (bc_lt hW (by simp)) (bc_cell (b := w.alloc (.cells #[.int .i64 o] 3)) (by go_simp) (by simp) W hW))
  have HA := hid (bc_alloc h0 (.cells #[.int .i64 o] 3))
  have hA1 := bc_refl (w.alloc (.cells #[.int .i64 o] 3))
  have HM := hid (lockMay A n c L)
  cases hm : mayL L
  · have HF : Hid (ofL L o = []) := hid (by simp [ofL, hm])
    go_enter Try.func39, Try.ntmps39
    go_wp2_with (go_at_call 26; refine (HM.out _ (H.out.below HA.out) hc).mono ?_; rintro e v1 ⟨rfl, hb⟩; rw [hm]; have HX : BelowC w v1 := bc_step HA.out hb; clear hb)
    go_returns
    exact ⟨_, rfl, by rw [HF.out]; exact own_nil _ _, HX⟩
  · have HF : Hid (ofL L o = ownF L o true) := hid (by simp [ofL, hm])
    go_enter Try.func39, Try.ntmps39
    go_wp2_with (first | (go_at_call 26; refine (HM.out _ (H.out.below HA.out) hc).mono ?_; rintro e v1 ⟨rfl, hb⟩; rw [hm]; have HX : BelowC (w.alloc (.cells #[.int .i64 o] 3)) v1 := bc_step hA1 hb; clear hb) | (go_at_call 56; refine (Clone A n c L _ (H.out.below (bc_trans HA.out HX)) hbig).mono ?_; rintro e v2 ⟨v, rfl, hown, hb⟩; have HO := hid (own_le hown HX); have HB := hid (bc_trans HX hb); clear hown hb) | (go_at_call 57; refine (DeleteFunc (fun x => !(x.owner == o)) 63 #[.pointer (some ⟨w.heap.size, 0, none⟩)] (enters_of Try.func63 (by kernel_rfl) rfl) v L _ _ HO.out HB.out HP.out).mono ?_; rintro e v3 ⟨v', rfl, ho, hb⟩; have HO2 := hid ho; have HB2 := hid hb; clear ho hb))
    go_returns
    exact ⟨_, rfl, by rw [HF.out, ownF_t]; exact own_le HO2.out HA.out, bc_trans HA.out HB2.out⟩
set_option maxHeartbeats 4000000 in
theorem Count (A : Option Addr) (n c : Nat) (L : List LockV) (o : Int) (w : World) (h : Lks w A n L) (hc : n ≤ c) (hbig : n ≤ 2199023255551) : Calls Try.prog 40 #[.slice A n c, .int .i64 o] w (Ret (.tuple #[.int .i64 ((ofL L o).length : Nat), .int .i64 (errI (mayL L))]) w) := by
  have H := hid h
  clear h
  go_enter Try.func40, Try.ntmps40
  go_wp2_with fail
  refine (Of A n c L o _ H.out hc hbig).mono ?_
  rintro e v1 ⟨v, rfl, hown, hb⟩
  have HE : Hid (∀ m : Nat, m = (ofL L o).length → Value.tuple #[.int .i64 (m : Int), .int .i64 (errI (mayL L))] = .tuple #[.int .i64 ((ofL L o).length : Nat), .int .i64 (errI (mayL L))]) := hid (fun m e => by rw [e])
  obtain ⟨A', n', c', rfl, hn, _, _, _⟩ := own_form hown
  have HN := hid hn
  have HB := hid hb
  clear hown hb hn
  go_wp2_with fail
  go_returns
  exact ⟨congrArg Ending.returned (HE.out n' HN.out), HB.out⟩
set_option maxHeartbeats 4000000 in
theorem lockOwn (A : Option Addr) (n c : Nat) (L : List LockV) (x : LockV) (w : World) (h : Lks w A n L) : Calls Try.prog 29 #[.slice A n c, x.val] w (Ret (.int .i64 (idxL (sameL x) L)) w) := by
  have h0 := bc_refl w
  have H := hid h
  clear h
  have HA := hid (bc_alloc h0 (.cells #[.int .i64 x.owner, .int .i64 x.table, .string x.lo, .string x.hi, .bool x.top, .int .i64 x.mode] 31))
  have HX6 := hid (box6_of w x)
  go_enter Try.func29, Try.ntmps29
  go_wp2_with (go_at_call 54; refine (IndexFunc (sameL x) 55 #[.pointer (some ⟨w.heap.size, 0, none⟩)] (enters_of Try.func55 (by kernel_rfl) rfl) A n c L _ (H.out.below HA.out) (fun y W hW => Lit55 x y _ W (HX6.out.below hW))).mono ?_; rintro e v1 ⟨rfl, hb⟩; have HB := hid (bc_step HA.out hb); clear hb)
  go_returns
  exact ⟨rfl, HB.out⟩
set_option maxHeartbeats 4000000 in
theorem lockHeld (A : Option Addr) (n c : Nat) (L : List LockV) (x : LockV) (w : World) (h : Lks w A n L) : Calls Try.prog 32 #[.slice A n c, x.val] w (Ret (.bool (L.any (heldL x))) w) := by
  have h0 := bc_refl w
  have H := hid h
  clear h
  have HA := hid (bc_alloc h0 (.cells #[.int .i64 x.owner, .int .i64 x.table, .string x.lo, .string x.hi, .bool x.top, .int .i64 x.mode] 31))
  have HX6 := hid (box6_of w x)
  go_enter Try.func32, Try.ntmps32
  go_wp2_with (go_at_call 45; refine (ContainsFunc (heldL x) 59 #[.pointer (some ⟨w.heap.size, 0, none⟩)] (enters_of Try.func59 (by kernel_rfl) rfl) A n c L _ (H.out.below HA.out) (fun y W hW => Lit59 x y _ W (HX6.out.below hW))).mono ?_; rintro e v1 ⟨rfl, hb⟩; have HB := hid (bc_step HA.out hb); clear hb)
  go_returns
  exact ⟨rfl, HB.out⟩
def goodL (L : List LockV) (x : LockV) : Bool := mayL L && isL x
set_option maxHeartbeats 4000000 in
theorem Covers (A : Option Addr) (n c : Nat) (L : List LockV) (x : LockV) (w : World) (h : Lks w A n L) (hc : n ≤ c) : Calls Try.prog 15 #[.slice A n c, x.val] w (Ret (.tuple #[.bool (goodL L x && L.any (heldL x)), .int .i64 (errI (goodL L x))]) w) := by
  have h0 := bc_refl w
  have H := hid h
  clear h
  have HM := hid (lockMay A n c L)
  obtain ⟨wb, hA, hAA, hsz, c0, c1, c2, c3, c4, c5⟩ : ∃ wb : World, BelowC w wb ∧ BelowC wb (w.alloc (.cells #[.int .i64 x.owner, .int .i64 x.table, .string x.lo, .string x.hi, .bool x.top, .int .i64 x.mode] 31)) ∧ w.heap.size + 1 ≤ wb.heap.size ∧ (∀ w', BelowC wb w' → w'.cell? ⟨w.heap.size, 0, none⟩ = some (.int .i64 x.owner)) ∧ (∀ w', BelowC wb w' → w'.cell? ⟨w.heap.size, 1, none⟩ = some (.int .i64 x.table)) ∧ (∀ w', BelowC wb w' → w'.cell? ⟨w.heap.size, 2, none⟩ = some (.string x.lo)) ∧ (∀ w', BelowC wb w' → w'.cell? ⟨w.heap.size, 3, none⟩ = some (.string x.hi)) ∧ (∀ w', BelowC wb w' → w'.cell? ⟨w.heap.size, 4, none⟩ = some (.bool x.top)) ∧ (∀ w', BelowC wb w' → w'.cell? ⟨w.heap.size, 5, none⟩ = some (.int .i64 x.mode)) := ⟨_, bc_alloc (bc_refl _) _, bc_refl _, by simp, bc_cell (by go_simp) (by first | (simp; done) | (simp; omega)), bc_cell (by go_simp) (by first | (simp; done) | (simp; omega)), bc_cell (by go_simp) (by first | (simp; done) | (simp; omega)), bc_cell (by go_simp) (by first | (simp; done) | (simp; omega)), bc_cell (by go_simp) (by first | (simp; done) | (simp; omega)), bc_cell (by go_simp) (by first | (simp; done) | (simp; omega))⟩
  have HA := hid hA
  cases hm : mayL L <;> cases hx : isL x <;> cases hl : L.any (heldL x)
  all_goals
    go_enter Try.func15, Try.ntmps15
    go_wp2_with (first | (go_at_call 26; refine (HM.out _ (H.out.below (bc_trans hA (by repeat (with_reducible first | assumption | exact bc_refl _ | apply bc_alloc | apply bc_drewN | apply bc_drew)))) hc).mono ?_; rintro e v1 ⟨rfl, hb⟩; rw [hm]; have HX : BelowC wb v1 := bc_step (by repeat (with_reducible first | assumption | exact bc_refl _ | apply bc_alloc | apply bc_drewN | apply bc_drew)) hb; clear hb) | (go_at_call 27; (with_reducible refine (lockIs x _).mono ?_); rintro e v1 ⟨rfl, hb⟩; rw [hx]; have HX : BelowC wb v1 := bc_step (by repeat (with_reducible first | assumption | exact bc_refl _ | apply bc_alloc | apply bc_drewN | apply bc_drew)) hb; clear hb) | (go_at_call 32; refine (lockHeld _ _ _ L x _ (H.out.below (bc_trans hA (by repeat (with_reducible first | assumption | exact bc_refl _ | apply bc_alloc | apply bc_drewN | apply bc_drew))))).mono ?_; rintro e v1 ⟨rfl, hb⟩; rw [hl]; have HX : BelowC wb v1 := bc_step (by repeat (with_reducible first | assumption | exact bc_refl _ | apply bc_alloc | apply bc_drewN | apply bc_drew)) hb; clear hb))
    go_returns
    exact ⟨by simp [goodL, hm, hx, errI], bc_trans HA.out (by repeat (with_reducible first | assumption | exact bc_refl _ | apply bc_alloc | apply bc_drewN | apply bc_drew))⟩
theorem Check (A : Option Addr) (n c : Nat) (L : List LockV) (w : World) (h : Lks w A n L) (hc : n ≤ c) : Calls Try.prog 42 #[.slice A n c] w (Ret (.int .i64 (errI (mayL L))) w) := by
  have h0 := bc_refl w
  have H := hid h
  clear h
  have HM := hid (lockMay A n c L)
  cases hm : mayL L
  all_goals
    go_enter Try.func42, Try.ntmps42
    go_wp2_with (go_at_call 26; refine (HM.out _ H.out hc).mono ?_; rintro e v1 ⟨rfl, hb⟩; rw [hm]; have HX : BelowC w v1 := bc_step h0 hb; clear hb)
    go_returns
    exact ⟨rfl, HX⟩
end Go.Proofs.Ytabbceinagakfaa.K
