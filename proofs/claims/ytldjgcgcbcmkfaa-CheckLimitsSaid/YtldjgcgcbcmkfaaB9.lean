/- Contracts of packages key and plan: what each comes to. -/
import Derived.Test.YtldjgcgcbcmkfaaProg
import Derived.Below
import Derived.WalkKit
import Derived.KernelRfl
import Derived.RowKit
import Derived.RowKit3
import Derived.Tactics
import Derived.Deep.QuietTactic
import Derived.BigQuiet
import Derived.OwnWalk
import Derived.Outline
import Derived.Handy
import Derived.StillTailTactics
import Derived.Deep.RegionHeld3
import Derived.Deep.DeepCutAuto
import Derived.Deep.CutBlock
import Derived.Shelf.Abstract
import Derived.Lib.Strings
import Derived.Test.YtldjgcgcbcmkfaaB8
namespace Go.Proofs.Ytldjgcgcbcmkfaa.K
open Go.RowKit Go.Proofs.YtldjgcgcbcmkfaaS
set_option linter.unusedSimpArgs false
set_option linter.unusedVariables false
attribute [local go_sem] s_leq s_gtr s_geq s_maxr s_minr

attribute [local go_sem] bc_alloc2 bc_alloc3 s_alloc_drewN s_setCell_drewN bc_alloc bc_drewN bc_drew

/-- Only reads and draws happened. -/
def QRet (v : Value) (w : World) (e : Ending) (w' : World) : Prop := e = .returned v ∧ ∃ m, w' = w.drewN m
/-- Go's n behind a loop that goes on while n is small. -/
def lpV (step : Nat → Int → Int) (n : Nat) : Nat → Int → Int
  | 0, m => m
  | r + 1, m => if m < 1048576 then lpV step n r (step (n - (r + 1)) m) else m
theorem lpV_step {step : Nat → Int → Int} {n k : Nat} {m : Int} (hk : k < n) (hm : m < 1048576) : lpV step n (n - k) m = lpV step n (n - (k + 1)) (step k m) := by
  obtain ⟨r, hr⟩ : ∃ r, n - k = r + 1 := ⟨n - k - 1, by omega⟩
  rw [hr, lpV, if_pos hm, show n - (r + 1) = k by omega, show n - (k + 1) = r by omega]
theorem lpV_stop {step : Nat → Int → Int} {n k : Nat} {m : Int} (hm : ¬ m < 1048576) : lpV step n (n - k) m = m := by
  cases h : n - k with
  | zero => rfl
  | succ r => rw [lpV, if_neg hm]
structure RowV where (k v : ByteArray)
def Wrts (w : World) (A : Option Addr) (n : Nat) (R : Nat → RowV) : Prop :=
  n ≤ 9223372036854775807 ∧ (0 < n → ∃ b o, A = some ⟨b, o, none⟩ ∧ b < w.heap.size ∧ ∀ i, i < n → w.cell? ⟨b, o + i * 4 + 1, none⟩ = some (.string (R i).k) ∧ w.cell? ⟨b, o + i * 4 + 2, none⟩ = some (.string (R i).v))
def wrtS (R : Nat → RowV) (i : Nat) (m : Int) : Int := wrap64 (m + wrap64 ((wrap64 (((R i).k.size : Int) + ((R i).v.size : Int))).tdiv 8))
set_option maxHeartbeats 1000000 in
theorem WritesWeight (A : Option Addr) (n c : Nat) (R : Nat → RowV) (w : World) (h : Wrts w A n R) : Calls Try.prog 23 #[.slice A n c] w (QRet (.int .i64 (lpV (wrtS R) n n n)) w) := by
  obtain ⟨hn, hA⟩ := h
  have HA := hid hA
  clear hA
  go_enter Try.func23, Try.ntmps23
  go_wp2
  go_loopw [3, 4] (fun u v wr => ∃ (m : Int) (k q : Nat), k ≤ n ∧ u = .int .i64 m ∧ v = .int .i64 k ∧ wr = w.drewN q ∧ Hid (lpV (wrtS R) n (n - k) m = lpV (wrtS R) n n n)) (fun _ v _ => n - (intOf v).toNat)
  case atStart => exact ⟨n, 0, 0, by omega, rfl, rfl, rfl, rfl⟩
  case round =>
    obtain ⟨m, k, q, hk, rfl, rfl, rfl, HT⟩ := hrel
    by_cases hlt : k < n
    · obtain ⟨b, o, rfl, hb, hc⟩ := HA.out (by omega)
      obtain ⟨hc1, hc2⟩ := hc k hlt
      clear hc
      by_cases hm : m < 1048576
      · have HS := hid (lpV_step (step := wrtS R) hlt hm)
        go_wp2
        go_quiet (fail)
        go_wp2
        go_roundw
        case rel => exact ⟨_, k + 1, _, by omega, rfl, by go_num, rfl, hid (HS.out.symm.trans HT.out)⟩
        case measure => simp [intOf]; omega
      · have HS := hid (lpV_stop (step := wrtS R) (n := n) (k := k) hm)
        go_wp2
        go_returns
        exact ⟨ret_intq (HS.out.symm.trans HT.out), _, rfl⟩
    · go_wp2
      go_returns
      exact ⟨ret_intq (by rw [← HT.out, show n - k = 0 by omega]; rfl), _, rfl⟩
def opsS (f : Nat → OpV) (i : Nat) (m : Int) : Int := wrap64 (m + wrap64 ((wrap64 (wrap64 (wrap64 (((f i).key.size : Int) + ((f i).value.size : Int)) + ((f i).lo.size : Int)) + ((f i).hi.size : Int))).tdiv 8))
set_option maxHeartbeats 1000000 in
theorem OpsWeight (A : Option Addr) (n c : Nat) (R : Nat → OpV) (w : World) (h : Ops w A n R) : Calls Try.prog 28 #[.slice A n c] w (QRet (.int .i64 (lpV (opsS R) n n n)) w) := by
  obtain ⟨hn, hA⟩ := h
  have HA := hid hA
  clear hA
  go_enter Try.func28, Try.ntmps28
  go_wp2
  go_loopw [3, 4] (fun u v wr => ∃ (m : Int) (k q : Nat), k ≤ n ∧ u = .int .i64 m ∧ v = .int .i64 k ∧ wr = w.drewN q ∧ Hid (lpV (opsS R) n (n - k) m = lpV (opsS R) n n n)) (fun _ v _ => n - (intOf v).toNat)
  case atStart => exact ⟨n, 0, 0, by omega, rfl, rfl, rfl, rfl⟩
  case round =>
    obtain ⟨m, k, q, hk, rfl, rfl, rfl, HT⟩ := hrel
    by_cases hlt : k < n
    · obtain ⟨b, o, rfl, hb, hc⟩ := HA.out (by omega)
      have hx := hc k hlt
      have q2 := hx.c2
      have q3 := hx.c3
      have q4 := hx.c4
      have q5 := hx.c5
      clear hx
      clear hc
      by_cases hm : m < 1048576
      · have HS := hid (lpV_step (step := opsS R) hlt hm)
        go_wp2
        go_quiet (fail)
        go_wp2
        go_roundw
        case rel => exact ⟨_, k + 1, _, by omega, rfl, by go_num, rfl, hid (HS.out.symm.trans HT.out)⟩
        case measure => simp [intOf]; omega
      · have HS := hid (lpV_stop (step := opsS R) (n := n) (k := k) hm)
        go_wp2
        go_returns
        exact ⟨ret_intq (HS.out.symm.trans HT.out), _, rfl⟩
    · go_wp2
      go_returns
      exact ⟨ret_intq (by rw [← HT.out, show n - k = 0 by omega]; rfl), _, rfl⟩
theorem Ops_drewN {w : World} {A : Option Addr} {n : Nat} {f : Nat → OpV} (h : Ops w A n f) (q : Nat) : Ops (w.drewN q) A n f := h.below (bc_drewN (bc_refl _) q)
def prgS (G : Nat → PrV) (i : Nat) (m : Int) : Int := wrap64 (m + lpV (opsS (G i).f) (G i).n (G i).n (G i).n)
set_option maxHeartbeats 1000000 in
theorem ProgramsWeight (A : Option Addr) (n c : Nat) (R : Nat → PrV) (w : World) (h : Progs w A n R) : Calls Try.prog 24 #[.slice A n c] w (QRet (.int .i64 (lpV (prgS R) n n n)) w) := by
  obtain ⟨hn, hA⟩ := h
  have HA := hid hA
  clear hA
  go_enter Try.func24, Try.ntmps24
  go_wp2
  go_loopw [3, 4] (fun u v wr => ∃ (m : Int) (k q : Nat), k ≤ n ∧ u = .int .i64 m ∧ v = .int .i64 k ∧ wr = w.drewN q ∧ Hid (lpV (prgS R) n (n - k) m = lpV (prgS R) n n n)) (fun _ v _ => n - (intOf v).toNat)
  case atStart => exact ⟨n, 0, 0, by omega, rfl, rfl, rfl, rfl⟩
  case round =>
    obtain ⟨m, k, q, hk, rfl, rfl, rfl, HT⟩ := hrel
    by_cases hlt : k < n
    · obtain ⟨b, o, rfl, hb, hc⟩ := HA.out (by omega)
      have hx := hc k hlt
      have q1 := hx.c1
      have HO := hid hx.ops
      clear hx
      clear hc
      by_cases hm : m < 1048576
      · have HS := hid (lpV_step (step := prgS R) hlt hm)
        go_wp2_with (go_at_call 28; (with_reducible refine (OpsWeight _ _ _ (R k).f _ (Ops_drewN HO.out _)).mono ?_); rintro e v1 ⟨rfl, nq, rfl⟩)
        go_wp2
        go_roundw
        case rel => exact ⟨_, k + 1, _, by omega, rfl, by go_num, rfl, hid (HS.out.symm.trans HT.out)⟩
        case measure => simp [intOf]; omega
      · have HS := hid (lpV_stop (step := prgS R) (n := n) (k := k) hm)
        go_wp2
        go_returns
        exact ⟨ret_intq (HS.out.symm.trans HT.out), _, rfl⟩
    · go_wp2
      go_returns
      exact ⟨ret_intq (by rw [← HT.out, show n - k = 0 by omega]; rfl), _, rfl⟩
structure MpV where (A : Option Addr) (n c : Nat) (R : Nat → RowV)
def Rws (w : World) (A : Option Addr) (n : Nat) (R : Nat → RowV) : Prop :=
  n ≤ 9223372036854775807 ∧ (0 < n → ∃ b o, A = some ⟨b, o, none⟩ ∧ b < w.heap.size ∧ ∀ i, i < n → w.cell? ⟨b, o + i * 2, none⟩ = some (.string (R i).k) ∧ w.cell? ⟨b, o + i * 2 + 1, none⟩ = some (.string (R i).v))
def Mps (w : World) (A : Option Addr) (n : Nat) (M : Nat → MpV) : Prop :=
  n ≤ 9223372036854775807 ∧ (0 < n → ∃ b o, A = some ⟨b, o, none⟩ ∧ b < w.heap.size ∧ ∀ i, i < n → w.cell? ⟨b, o + i, none⟩ = some (.slice (M i).A (M i).n (M i).c) ∧ Rws w (M i).A (M i).n (M i).R)
def mapS (M : Nat → MpV) (i : Nat) (m : Int) : Int := lpV (wrtS (M i).R) (M i).n (M i).n (wrap64 (m + ((M i).n : Int)))
set_option maxHeartbeats 4000000 in
theorem MapsWeight (A : Option Addr) (n c : Nat) (M : Nat → MpV) (w : World) (h : Mps w A n M) : Calls Try.prog 22 #[.slice A n c] w (QRet (.int .i64 (lpV (mapS M) n n n)) w) := by
  obtain ⟨hn, hA⟩ := h
  have HA := hid hA
  clear hA
  go_enter Try.func22, Try.ntmps22
  go_wp2
  go_loopw [3, 4, 5] (fun u v _ wr => ∃ (m : Int) (k q : Nat), k ≤ n ∧ u = .int .i64 m ∧ v = .int .i64 k ∧ wr = w.drewN q ∧ Hid (lpV (mapS M) n (n - k) m = lpV (mapS M) n n n)) (fun _ v _ _ => n - (intOf v).toNat)
  case atStart => exact ⟨n, 0, 0, by omega, rfl, rfl, rfl, rfl⟩
  case round =>
    obtain ⟨m, k, q, hk, rfl, rfl, rfl, HT⟩ := hrel
    by_cases hlt : k < n
    · obtain ⟨b, o, rfl, hb, hc⟩ := HA.out (by omega)
      obtain ⟨hc1, hr⟩ := hc k hlt
      clear hc
      by_cases hm : m < 1048576
      · have HS := hid (lpV_step (step := mapS M) hlt hm)
        have HD : Hid (mapS M k m = lpV (wrtS (M k).R) (M k).n (M k).n (wrap64 (m + ((M k).n : Int)))) := hid rfl
        generalize mapS M k m = mk at HS HD
        generalize M k = gk at hc1 hr HD
        obtain ⟨A', n', c', R'⟩ := gk
        simp only at hc1 hr
        obtain ⟨hn', hA'⟩ := hr
        have HA' := hid hA'
        clear hA'
        go_wp2
        go_loopw [3, 5] (fun u v wr => ∃ (m2 : Int) (j q2 : Nat), j ≤ n' ∧ u = .int .i64 m2 ∧ v = .int .i64 j ∧ wr = w.drewN q2 ∧ Hid (lpV (wrtS R') n' (n' - j) m2 = mk)) (fun _ v _ => n' - (intOf v).toNat)
        case atStart => exact ⟨_, 0, q, by omega, rfl, rfl, rfl, HD.out.symm⟩
        case round =>
          obtain ⟨m2, j, q2, hj, rfl, rfl, rfl, HT2⟩ := hrel
          by_cases hlt2 : j < n'
          · obtain ⟨b2, o2, rfl, hb2, hc2⟩ := HA'.out (by omega)
            obtain ⟨hd1, hd2⟩ := hc2 j hlt2
            clear hc2
            by_cases hm2 : m2 < 1048576
            · have HS2 := hid (lpV_step (step := wrtS R') hlt2 hm2)
              have i1 : (k : Int) < (n : Int) := by omega
              have i2 : (j : Int) < (n' : Int) := by omega
              go_wp2
              go_quiet (fail)
              go_wp2
              go_roundw
              case rel => exact ⟨_, j + 1, _, by omega, rfl, by go_num, rfl, hid (HS2.out.symm.trans HT2.out)⟩
              case measure => simp [intOf]; omega
            · have HS2 := hid (lpV_stop (step := wrtS R') (n := n') (k := j) hm2)
              go_wp2
              go_roundw
              case rel => exact ⟨_, k + 1, _, by omega, rfl, by go_num, rfl, hid (by rw [← HT.out, HS.out, ← HT2.out, HS2.out])⟩
              case measure => simp [intOf]; omega
          · go_wp2
            go_roundw
            case rel => exact ⟨_, k + 1, _, by omega, rfl, by go_num, rfl, hid (by rw [← HT.out, HS.out, ← HT2.out, show n' - j = 0 by omega]; rfl)⟩
            case measure => simp [intOf]; omega
      · have HS := hid (lpV_stop (step := mapS M) (n := n) (k := k) hm)
        go_wp2
        go_returns
        exact ⟨ret_intq (HS.out.symm.trans HT.out), _, rfl⟩
    · go_wp2
      go_returns
      exact ⟨ret_intq (by rw [← HT.out, show n - k = 0 by omega]; rfl), _, rfl⟩
end Go.Proofs.Ytldjgcgcbcmkfaa.K
