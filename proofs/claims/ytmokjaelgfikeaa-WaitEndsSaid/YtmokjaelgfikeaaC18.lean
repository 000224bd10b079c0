/- ref Waits. -/
import Derived.Test.YtmokjaelgfikeaaProg
import Derived.Below
import Derived.WalkKit
import Derived.KernelRfl
import Derived.RowKit
import Derived.RowKit3
import Derived.Tactics
import Derived.Deep.QuietTactic
import Derived.BigQuiet
import Derived.OwnWalk
import Derived.Outline
import Derived.Handy
import Derived.StillTailTactics
import Derived.Deep.RegionHeld3
import Derived.Deep.DeepCutAuto
import Derived.Deep.CutBlock
import Derived.Shelf.Abstract
import Derived.Shelf.SlSortCmp.QuietGrown
import Derived.Lib.SliceRun
import Derived.Sort.OwnSortedInts
import Derived.Lib.SlicesCompact
import Derived.Lib.SmallJoins
import Derived.SliceStrings
import Derived.ArgAppend
import Derived.Deep.AppendSrc
import Derived.Deep.Upon
import Derived.Deep.Slices
import Derived.ChangeSame
import Derived.Maps.OwnSet
import Derived.Maps.Range
import Derived.Maps.OwnOps
import Derived.Lib.SlKeysI
import Derived.Maps.Views
import Derived.Maps.AppendAt
import Derived.Test.YtmokjaelgfikeaaC17
namespace Go.Proofs.Ytmokjaelgfikeaa.K
open Go.RowKit
set_option linter.unusedSimpArgs false
set_option linter.unusedVariables false
attribute [local go_sem] bc_alloc2 bc_alloc3 s_alloc_drewN s_setCell_drewN bc_alloc bc_drewN bc_drew

def RetM (L : List WaitV) (w : World) (e : Ending) (w' : World) : Prop := ∃ b, e = .returned (.bool b) ∧ (b = true → MayW L) ∧ ∃ q, w' = w.drewN q
theorem dd (w : World) (q r : Nat) : ∃ p, (w.drewN q).drewN r = w.drewN p := ⟨q + r, by rw [World.drewN_drewN]⟩
theorem os_get {L : List WaitV} {i : Nat} (hi : i < L.length) : (L.map (·.o))[i]'(by simpa using hi) = L[i].o := by simp
theorem os_step {L : List WaitV} {i : Nat} (hi : i < L.length) (h : Rises ((L.map (·.o)).take i)) (h0 : 0 ≤ L[i].o) (h1 : ∀ (hp : 0 < i), (L[i - 1]'(by omega)).o < L[i].o) : Rises ((L.map (·.o)).take (i + 1)) := by
  refine rises_step (by simpa using hi) h (by rw [os_get hi]; exact h0) (fun hp => ?_)
  rw [os_get hi, os_get (show i - 1 < L.length by omega)]
  exact h1 hp
set_option maxRecDepth 100000 in
set_option maxHeartbeats 8000000 in
theorem WaitsOf (A : Option Addr) (n c : Nat) (L : List WaitV) (w : World) (h : Wts w A n L) : Calls Try.prog 8 #[.slice A n c] w (RetM L w) := by
  have hn := h.2.1
  have H := hid h
  have HL := hid h.1
  clear h
  by_cases h6 : (6 : Int) < (n : Int)
  · have d6 : decide ((6 : Int) < (n : Int)) = true := decide_eq_true h6
    go_enter Try.func8, Try.ntmps8
    go_wp2_with fail
    go_returns
    exact ⟨false, rfl, fun h => (by cases h), 0, rfl⟩
  have d6 : decide ((6 : Int) < (n : Int)) = false := decide_eq_false h6
  go_enter Try.func8, Try.ntmps8
  go_wp2_with fail
  go_loopg [3, 4] n (fun g y3 _ wr => ∃ (i q : Nat), i ≤ n ∧ g = n - i ∧ y3 = .int .i64 i ∧ wr = w.drewN q ∧ Hid (Rises ((L.map (·.o)).take i)) ∧ Hid (∀ j (hj : j < L.length), j < i → Rises L[j].f ∧ L[j].o ∉ L[j].f))
  case atStart => exact ⟨0, 0, by omega, by omega, rfl, rfl, hid ⟨by simp, by simp⟩, hid (fun j _ hj => absurd hj (by omega))⟩
  case round =>
    obtain ⟨i, q, hi, rfl, rfl, rfl, HR, HA⟩ := hrel
    by_cases hlt : i < n
    rotate_left
    · have HF : Hid (MayW L) := hid ⟨fun x hx => by
          obtain ⟨j, hj, rfl⟩ := List.mem_iff_getElem.1 hx
          exact HA.out j hj (by have := HL.out; omega), by have := HL.out; omega, by have := HR.out; rw [List.take_of_length_le (by rw [List.length_map]; have := HL.out; omega)] at this; exact this⟩
      go_wp2_with fail
      go_returns
      exact ⟨true, rfl, fun _ => HF.out, _, rfl⟩
    obtain ⟨b, o, rfl, hb0, hc⟩ := H.out.2.2 (by omega)
    have hil : i < L.length := by have := HL.out; omega
    have hx := hc i hil
    have HOS := hid (os_step hil HR.out)
    have HAS : Hid ((Rises L[i].f ∧ L[i].o ∉ L[i].f) → ∀ j (hj : j < L.length), j < i + 1 → Rises L[j].f ∧ L[j].o ∉ L[j].f) := hid (fun h j hjl hj => by
      by_cases e : j = i
      · subst e; exact h
      · exact HA.out j hjl (by omega))
    have i1 : (i : Int) < (n : Int) := by omega
    obtain ⟨yo, HY, HYC⟩ : ∃ yo : Int, Hid (0 ≤ L[i].o → (0 < i → yo < L[i].o) → Rises ((L.map (·.o)).take (i + 1))) ∧ (0 < i → w.cell? ⟨b, o + (i - 1) * 2, none⟩ = some (.int .i64 yo)) := by
      by_cases hp : 0 < i
      · exact ⟨(L[i - 1]'(by omega)).o, hid (fun a1 a2 => HOS.out a1 (fun _ => a2 hp)), fun _ => (hc (i - 1) (by omega)).c0⟩
      · exact ⟨0, hid (fun a1 _ => HOS.out a1 (fun h => absurd h hp)), fun h => absurd h hp⟩
    generalize L[i] = x at hx HY HAS
    have q0 := hx.c0
    have q1 := hx.c1
    have HN := hid hx.ns
    obtain ⟨r, hr⟩ : ∃ r, r = idxL (fun y => y == x.o) x.f := ⟨_, rfl⟩
    have HIn := hid (fun m => (hr ▸ In x.o x.A x.n x.c x.f ((w.drewN q).drewN m) (HN.out.below (bc_drewN (bc_drewN (bc_refl _) _) _)) : Calls Try.prog 14 #[.slice x.A x.n x.c, .int .i64 x.o] ((w.drewN q).drewN m) (QRet (.int .i64 r) ((w.drewN q).drewN m))))
    have HIR : Hid (decide (0 ≤ r) = decide (x.o ∈ x.f)) := hid (by
      rw [hr, ← any_idxL, Bool.eq_iff_iff, List.any_eq_true, decide_eq_true_eq]
      constructor
      · rintro ⟨y, hy, e⟩
        rw [← eq_of_beq e]; exact hy
      · intro h
        exact ⟨x.o, h, by simp⟩)
    clear hx hc hil hr HOS
    obtain ⟨xo, xA, xn, xc, xf⟩ := x
    dsimp only at HY HAS q0 q1 HN HIn HIR
    go_upto_region 6 with fail
    go_cut [51] (fun y wc => ∃ bb q, y = .bool bb ∧ Hid (bb = false → 0 ≤ xo ∧ (0 < i → yo < xo) ∧ xo ∉ xf) ∧ wc = w.drewN q)
    case first =>
      have p0 : (w.drewN q).cell? ⟨b, o + i * 2, none⟩ = some (.int .i64 xo) := q0
      have p1 : (w.drewN q).cell? ⟨b, o + i * 2 + 1, none⟩ = some (.slice xA xn xc) := q1
      have HYC2 : 0 < i → (w.drewN q).cell? ⟨b, o + (i - 1) * 2, none⟩ = some (.int .i64 yo) := HYC
      clear q0 q1 HYC
      generalize hq : w.drewN q = wQ at p0 p1 HYC2 HIn ⊢
      have HQ := hid hq
      clear hq
      by_cases h0 : xo < 0
      · have d0 : decide (xo < 0) = true := decide_eq_true h0
        go_quiet (fail)
        go_wp2_with fail
        go_meet
        case rel => exact ⟨true, q + nq, rfl, hid (fun h => (by cases h)), (by rw [← HQ.out, World.drewN_drewN])⟩
      have d0 : decide (xo < 0) = false := decide_eq_false h0
      by_cases hp : 0 < i
      · have dp : decide ((0 : Int) < (i : Int)) = true := decide_eq_true (by omega)
        have q2 := HYC2 hp
        have hwr : IntKind.i64.wrap ((i : Int) - 1) = ((i - 1 : Nat) : Int) := (IntWalk.i64_in _ ⟨by omega, by omega⟩).trans (by omega)
        have j2 : ((i - 1 : Nat) : Int) < (n : Int) := by omega
        by_cases hxy : xo ≤ yo
        · have dy : decide (xo ≤ yo) = true := decide_eq_true hxy
          go_quiet (fail)
          go_wp2_with fail
          go_meet
          case rel => exact ⟨true, q + nq, rfl, hid (fun h => (by cases h)), (by rw [← HQ.out, World.drewN_drewN])⟩
        · have dy : decide (xo ≤ yo) = false := decide_eq_false hxy
          go_quiet (first | (go_at_call 14; exact Calls.quiet_of (HIn.out _)))
          go_wp2_with fail
          go_meet
          case rel => exact ⟨_, q + nq, rfl, hid (fun h => ⟨by omega, fun _ => by omega, fun hm => by rw [HIR.out, decide_eq_true hm] at h; cases h⟩), (by rw [← HQ.out, World.drewN_drewN])⟩
      · have dp : decide ((0 : Int) < (i : Int)) = false := decide_eq_false (by omega)
        go_quiet (first | (go_at_call 14; exact Calls.quiet_of (HIn.out _)))
        go_wp2_with fail
        go_meet
        case rel => exact ⟨_, q + nq, rfl, hid (fun h => ⟨by omega, fun h2 => absurd h2 hp, fun hm => by rw [HIR.out, decide_eq_true hm] at h; cases h⟩), (by rw [← HQ.out, World.drewN_drewN])⟩
    case rest =>
    obtain ⟨bb, q2, rfl, HBB, rfl⟩ := hcut
    cases bb
    rotate_left
    · go_wp2_with fail
      go_returns
      exact ⟨false, rfl, fun h => (by cases h), _, rfl⟩
    have HG := hid (HBB.out rfl)
    clear HBB HYC HIR HIn
    go_wp2_with fail
    go_loopg [4] xn (fun g y wr => ∃ (k q : Nat), k ≤ xn ∧ g = xn - k ∧ y = .int .i64 k ∧ wr = w.drewN q ∧ Hid (Rises (xf.take k)))
    case atStart => exact ⟨0, q2, by omega, by omega, rfl, rfl, hid ⟨by simp, by simp⟩⟩
    case round =>
      obtain ⟨k, q3, hk, rfl, rfl, rfl, HK⟩ := hrel
      have hxn := HN.out.2.1
      by_cases hkn : k < xn
      rotate_left
      · have dk : decide ((k : Int) < (xn : Int)) = false := decide_eq_false (by omega)
        have HRF : Hid (Rises xf) := hid (by have := HK.out; rw [List.take_of_length_le (by have := HN.out.1; omega)] at this; exact this)
        go_wp2_with fail
        go_roundg (n - (i + 1))
        case measure => omega
        case rel => exact ⟨i + 1, q3, by omega, rfl, by go_num, rfl, hid (HY.out HG.out.1 HG.out.2.1), hid (HAS.out ⟨HRF.out, HG.out.2.2⟩)⟩
      obtain ⟨bf, of, rfl, hbf, hcf⟩ := HN.out.2.2 (by omega)
      have hkf : k < xf.length := by have := HN.out.1; omega
      have hz := hcf k hkf
      have HST := hid (rises_step hkf HK.out)
      have k1 : (k : Int) < (xn : Int) := by omega
      by_cases hk0 : 0 < k
      · have dk0 : decide ((0 : Int) < (k : Int)) = true := decide_eq_true (by omega)
        have hy := hcf (k - 1) (by omega)
        have HS1 : Hid (0 ≤ xf[k] → xf[k - 1]'(by omega) < xf[k] → Rises (xf.take (k + 1))) := hid (fun a b => HST.out a (fun _ => b))
        clear HST
        generalize xf[k] = z at hz HS1
        generalize xf[k - 1]'(by omega) = y at hy HS1
        have j0 : 0 ≤ (k : Int) - 1 := by omega
        have j1 : (k : Int) - 1 < (xn : Int) := by omega
        have ek : ((k - 1 : Nat) : Int) = (k : Int) - 1 := by omega
        clear hcf hkf
        by_cases hz0 : z < 0
        · have dz : decide (z < 0) = true := decide_eq_true hz0
          go_wp2_with fail
          go_quiet (fail)
          go_wp2_with fail
          go_returns
          exact ⟨false, rfl, fun h => (by cases h), by first | exact ⟨_, rfl⟩ | exact dd _ _ _⟩
        · have dz : decide (z < 0) = false := decide_eq_false hz0
          by_cases hzy : z ≤ y
          · have dy : decide (z ≤ y) = true := decide_eq_true hzy
            go_wp2_with fail
            go_quiet (fail)
            go_wp2_with fail
            go_returns
            exact ⟨false, rfl, fun h => (by cases h), by first | exact ⟨_, rfl⟩ | exact dd _ _ _⟩
          · have dy : decide (z ≤ y) = false := decide_eq_false hzy
            go_wp2_with fail
            go_quiet (fail)
            go_wp2_with fail
            go_roundg (xn - (k + 1))
            case measure => omega
            case rel => exact ⟨k + 1, _, by omega, rfl, by go_num, by first | rfl | exact (dd _ _ _).choose_spec, hid (HS1.out (by omega) (by omega))⟩
      · have dk0 : decide ((0 : Int) < (k : Int)) = false := decide_eq_false (by omega)
        have HS1 : Hid (0 ≤ xf[k] → Rises (xf.take (k + 1))) := hid (fun a => HST.out a (fun h => absurd h hk0))
        clear HST
        generalize xf[k] = z at hz HS1
        clear hcf hkf
        by_cases hz0 : z < 0
        · have dz : decide (z < 0) = true := decide_eq_true hz0
          go_wp2_with fail
          go_quiet (fail)
          go_wp2_with fail
          go_returns
          exact ⟨false, rfl, fun h => (by cases h), by first | exact ⟨_, rfl⟩ | exact dd _ _ _⟩
        · have dz : decide (z < 0) = false := decide_eq_false hz0
          go_wp2_with fail
          go_quiet (fail)
          go_wp2_with fail
          go_roundg (xn - (k + 1))
          case measure => omega
          case rel => exact ⟨k + 1, _, by omega, rfl, by go_num, by first | rfl | exact (dd _ _ _).choose_spec, hid (HS1.out (by omega))⟩
end Go.Proofs.Ytmokjaelgfikeaa.K
