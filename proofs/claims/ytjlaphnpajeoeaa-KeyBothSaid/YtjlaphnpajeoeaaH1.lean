/- Helpers of the laws of layer 1 -/
import Derived.Test.YtjlaphnpajeoeaaProg
import Derived.Below
import Derived.WalkKit
import Derived.KernelRfl
import Derived.RowKit
import Derived.RowKit3
import Derived.Tactics
import Derived.Deep.QuietTactic
import Derived.BigQuiet
import Derived.OwnWalk
import Derived.Outline
import Derived.Handy
import Derived.Lib.Strings
import Derived.Test.YtjlaphnpajeoeaaK1
namespace Go.Proofs.Ytjlaphnpajeoeaa.K
open Go.RowKit Go.Proofs.YtjlaphnpajeoeaaS
set_option linter.unusedSimpArgs false
set_option linter.unusedVariables false
attribute [local go_sem] s_leq s_gtr s_geq s_maxr s_minr

/-- A slice of strings that came in. -/
def Strs (w : World) (A : Option Addr) (n : Nat) (S : Nat → ByteArray) : Prop :=
  n ≤ 9223372036854775807 ∧ (0 < n → ∃ b o, A = some ⟨b, o, none⟩ ∧ b < w.heap.size ∧ ∀ i, i < n → w.cell? ⟨b, o + i, none⟩ = some (.string (S i)))
/-- A slice of ranges that came in. -/
structure Rng where (lo hi : ByteArray) (top : Bool)
def Rngs (w : World) (A : Option Addr) (n : Nat) (R : Nat → Rng) : Prop :=
  n ≤ 9223372036854775807 ∧ (0 < n → ∃ b o, A = some ⟨b, o, none⟩ ∧ b < w.heap.size ∧ ∀ i, i < n → w.cell? ⟨b, o + i * 3, none⟩ = some (.string (R i).lo) ∧ w.cell? ⟨b, o + i * 3 + 1, none⟩ = some (.string (R i).hi) ∧ w.cell? ⟨b, o + i * 3 + 2, none⟩ = some (.bool (R i).top))
theorem ret_int {k : IntKind} {a b : Int} (h : a = b) : Ending.returned (.int k a) = .returned (.int k b) := by rw [h]
/-- Go's n after a loop that adds sizes while n is small. -/
def textsL (S : Nat → ByteArray) (n : Nat) : Nat → Int → Int
  | 0, m => m
  | r + 1, m => if m < 1048576 then textsL S n r (wrap64 (m + ((S (n - (r + 1))).size : Int))) else m
theorem textsL_step (S : Nat → ByteArray) (n k : Nat) (m : Int) (hk : k < n) (hm : m < 1048576) : textsL S n (n - k) m = textsL S n (n - (k + 1)) (wrap64 (m + ((S k).size : Int))) := by
  obtain ⟨r, hr⟩ : ∃ r, n - k = r + 1 := ⟨n - k - 1, by omega⟩
  rw [hr, textsL, if_pos hm, show n - (r + 1) = k by omega, show n - (k + 1) = r by omega]
theorem textsL_stop (S : Nat → ByteArray) (n k : Nat) (m : Int) (hm : ¬ m < 1048576) : textsL S n (n - k) m = m := by
  cases h : n - k with
  | zero => rfl
  | succ r => rw [textsL, if_neg hm]
set_option maxHeartbeats 1000000 in
theorem Texts (A : Option Addr) (n c : Nat) (S : Nat → ByteArray) (w : World) (h : Strs w A n S) : Calls Try.prog 36 #[.slice A n c] w fun e w' => e = .returned (.int .i64 (textsL S n n n)) ∧ w' = w := by
  obtain ⟨hn, hA⟩ := h
  have HA := hid hA
  clear hA
  go_enter Try.func36, Try.ntmps36
  go_wp2
  go_loop [3, 4] (fun u v => ∃ (m : Int) (k : Nat), k ≤ n ∧ u = .int .i64 m ∧ v = .int .i64 k ∧ Hid (textsL S n (n - k) m = textsL S n n n)) (fun _ v => n - (intOf v).toNat)
  case atStart => exact ⟨n, 0, by omega, rfl, rfl, rfl⟩
  case round =>
    obtain ⟨m, k, hk, rfl, rfl, HT⟩ := hrel
    by_cases hlt : k < n
    · obtain ⟨b, o, rfl, hb, hc⟩ := HA.out (by omega)
      have hcell := hc k hlt
      clear hc
      by_cases hm : m < 1048576
      · have HS := hid (textsL_step S n k m hlt hm)
        go_wp2
        go_round
        case rel => exact ⟨_, k + 1, by omega, rfl, by go_num, hid (HS.out.symm.trans HT.out)⟩
        case measure => simp [intOf]; omega
      · have HS := hid (textsL_stop S n k m hm)
        go_wp2
        go_returns
        exact ⟨ret_int (HS.out.symm.trans HT.out), rfl⟩
    · go_wp2
      go_returns
      exact ⟨ret_int (by rw [← HT.out, show n - k = 0 by omega]; rfl), rfl⟩
theorem Strs_below {w w' : World} {A : Option Addr} {n : Nat} {S : Nat → ByteArray} (h : Strs w A n S) (hb : Below w.heap.size w w') : Strs w' A n S := by
  refine ⟨h.1, fun h0 => ?_⟩
  obtain ⟨b, o, e, hlt, hc⟩ := h.2 h0
  exact ⟨b, o, e, Nat.lt_of_lt_of_le hlt hb.size, fun i hi => (hb.cell (p := ⟨b, o + i, none⟩) hlt).trans (hc i hi)⟩
theorem Rngs_below {w w' : World} {A : Option Addr} {n : Nat} {R : Nat → Rng} (h : Rngs w A n R) (hb : Below w.heap.size w w') : Rngs w' A n R := by
  refine ⟨h.1, fun h0 => ?_⟩
  obtain ⟨b, o, e, hlt, hc⟩ := h.2 h0
  exact ⟨b, o, e, Nat.lt_of_lt_of_le hlt hb.size, fun i hi => ⟨(hb.cell (p := ⟨b, o + i * 3, none⟩) hlt).trans (hc i hi).1, (hb.cell (p := ⟨b, o + i * 3 + 1, none⟩) hlt).trans (hc i hi).2.1, (hb.cell (p := ⟨b, o + i * 3 + 2, none⟩) hlt).trans (hc i hi).2.2⟩⟩
def SomeBool (w : World) (e : Ending) (w' : World) : Prop := ∃ n : Bool, e = .returned (.bool n) ∧ Below w.heap.size w w'
set_option maxHeartbeats 1000000 in
theorem Heavy (A A' : Option Addr) (n c n' c' : Nat) (S : Nat → ByteArray) (R : Nat → Rng) (w : World) (h : Strs w A n S) (h' : Rngs w A' n' R) : Calls Try.prog 11 #[.agg #[.slice A n c, .slice A' n' c']] w (SomeBool w) := by
  have h2 := h
  have h2' := h'
  obtain ⟨hn, hA⟩ := h
  obtain ⟨hn', hA'⟩ := h'
  have HA := hid hA
  have HA' := hid hA'
  have H2 := hid h2
  have H2' := hid h2'
  clear hA hA' h2 h2'
  go_enter Try.func11, Try.ntmps11
  go_wp2_with fail
  go_quiet ((go_at_call 36; exact Calls.quiet_of_same (Texts _ _ _ S _ (Strs_below H2.out (by repeat (first | exact Below.refl _ _ | apply below_alloc | apply below_drewN | apply below_drew))))))
  go_wp2
  go_loopw [3, 4] (fun u v wr => ∃ (m : Int) (k q : Nat), k ≤ n' ∧ u = .int .i64 m ∧ v = .int .i64 k ∧ wr = (w.alloc (.cells #[.slice A n c, .slice A' n' c'] 25)).drewN q) (fun _ v _ => n' - (intOf v).toNat)
  case atStart => exact ⟨_, 0, nq, by omega, rfl, rfl, rfl⟩
  case round =>
    obtain ⟨m, k, q, hk, rfl, rfl, rfl⟩ := hrel
    by_cases hlt : k < n'
    · obtain ⟨b, o, rfl, hb, hc⟩ := HA'.out (by omega)
      obtain ⟨hc0, hc1, hc2⟩ := hc k hlt
      clear hc
      by_cases hm : m < 1048576
      · go_wp2
        go_quiet (fail)
        go_wp2
        go_roundw
        case rel => exact ⟨_, k + 1, _, by omega, rfl, by go_num, rfl⟩
        case measure => simp [intOf]; omega
      · go_wp2
        go_returns
        exact ⟨_, rfl, by repeat (first | exact Below.refl _ _ | apply below_alloc | apply below_drewN | apply below_drew)⟩
    · go_wp2
      go_returns
      exact ⟨_, rfl, by repeat (first | exact Below.refl _ _ | apply below_alloc | apply below_drewN | apply below_drew)⟩
end Go.Proofs.Ytjlaphnpajeoeaa.K
