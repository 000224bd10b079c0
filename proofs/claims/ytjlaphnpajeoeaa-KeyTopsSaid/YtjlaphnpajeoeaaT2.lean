/- KeyTops' walk -/
import Derived.Test.YtjlaphnpajeoeaaProg
import Derived.Below
import Derived.WalkKit
import Derived.KernelRfl
import Derived.RowKit
import Derived.RowKit3
import Derived.Tactics
import Derived.Deep.QuietTactic
import Derived.BigQuiet
import Derived.OwnWalk
import Derived.Outline
import Derived.Handy
import Derived.StillTailTactics
import Derived.Deep.RegionHeld3
import Derived.Lib.Strings
import Derived.Test.YtjlaphnpajeoeaaK2
import Derived.Test.YtjlaphnpajeoeaaH1
import Derived.Test.YtjlaphnpajeoeaaP1
import Derived.Test.YtjlaphnpajeoeaaQ1
namespace Go.Proofs.Ytjlaphnpajeoeaa.K
open Go.RowKit Go.Proofs.YtjlaphnpajeoeaaS
set_option linter.unusedSimpArgs false
set_option linter.unusedVariables false
attribute [local go_sem] s_leq s_gtr s_geq s_maxr s_minr

theorem num' (n : Int) (w : World) : Calls Try.prog 15 #[.int .i64 n] w fun e w' => e = .returned (.int .i64 n) ∧ w = w' := by
  go_enter Try.func15, Try.ntmps15
  go_wp2
  go_returns
  exact ⟨rfl, rfl⟩
attribute [local go_sem] s_alloc_drewN s_setCell_drewN
set_option maxRecDepth 100000 in
set_option maxHeartbeats 4000000 in
theorem KeyTops (A A' : Option Addr) (n c n' c' : Nat) (S : Nat → ByteArray) (R : Nat → Rng) (w : World) (h : Strs w A n S) (h' : Rngs w A' n' R) :
    Calls Try.prog 5 #[.agg #[.slice A n c, .slice A' n' c']] w (Ret (.bool true) w) := by
  have hn := h.1
  have hn' := h'.1
  have H := hid h
  have H' := hid h'
  clear h h'
  go_enter Try.func5, Try.ntmps5
  go_wp2_with fail
  refine (Heavy A A' n c n' c' S R _ (Strs_below H.out (by repeat (first | exact Below.refl _ _ | apply below_alloc | apply below_drewN | apply below_drew))) (Rngs_below H'.out (by repeat (first | exact Below.refl _ _ | apply below_alloc | apply below_drewN | apply below_drew)))).mono ?_
  rintro e wB ⟨hv, rfl, hb⟩
  have HW : Hid (Below w.heap.size w wB) := hid (below_step (by repeat (first | exact Below.refl _ _ | apply below_alloc | apply below_drewN | apply below_drew)) hb)
  have hg := hb.size
  (try simp only [World.size_alloc, World.size_setCell, World.size_drew, World.heap_drewN] at hg)
  have hp0 : wB.cell? ⟨w.heap.size, 0, none⟩ = some (.slice A n c) := (hb.cell (p := ⟨w.heap.size, 0, none⟩) (by simp)).trans (by simp)
  have hp1 : wB.cell? ⟨w.heap.size, 1, none⟩ = some (.slice A' n' c') := (hb.cell (p := ⟨w.heap.size, 1, none⟩) (by simp)).trans (by simp)
  clear hb
  have H0 : Hid (Strs wB A n S) := hid (Strs_below H.out HW.out)
  have H0' : Hid (Rngs wB A' n' R) := hid (Rngs_below H'.out HW.out)
  clear H H'
  have HB : Hid (Below wB.heap.size wB wB) := hid (Below.refl _ _)
  cases hv
  · have ok0 : oks false = 1 := rfl
    have ok1 : oks true = 0 := rfl
    go_wp2_with fail
    go_loopw [3] (fun u wr => ∃ k : Nat, (k ≤ n ∧ k ≤ 8) ∧ u = .int .i64 k ∧ Hid (Below wB.heap.size wB wr)) (fun u _ => n - (intOf u).toNat)
    case atStart => exact ⟨0, ⟨by omega, by omega⟩, rfl, HB⟩
    case round =>
      clear HB
      obtain ⟨k, hk, rfl, HB⟩ := hrel
      have hs := HB.out.size
      have hp : ∀ o, wr.cell? ⟨w.heap.size, o, none⟩ = wB.cell? ⟨w.heap.size, o, none⟩ := fun o => HB.out.cell (p := ⟨w.heap.size, o, none⟩) (by simp; omega)
      rename World => wO
      have hwO : w.heap.size < wO.heap.size := by omega
      by_cases hlt : k + 1 < n
      · obtain ⟨b, o, rfl, hb, hc⟩ := (Strs_below H0.out HB.out).2 (by omega)
        have hcell := hc k (by omega)
        have hcell2 : wO.cell? ⟨b, o + (k + 1), none⟩ = some (.string (S (k + 1))) := hc (k + 1) hlt
        clear hc
        by_cases h6 : k < 8
        · have i1 : ((k : Int) + 1) < (n : Int) := by omega
          have i2 : (0 : Int) ≤ (k : Int) + 1 := by omega
          have i3 : (k : Int) < (n : Int) := by omega
          have i4 : ((k : Int) + 1).toNat = k + 1 := by omega
          have i5 : IntKind.i64.wrap ((k : Int) + 1) = (k : Int) + 1 := IntWalk.i64_in _ ⟨by omega, by omega⟩
          go_wp2_with fail
          have hab := smx_smn (S k) (S (k + 1))
          go_quiet (fail)
          clear i5
          cases h1 : mayB (smn (S k) (S (k + 1))) ⟨#[]⟩ true
          · go_wp2_with (first | (go_at_call 23; (with_reducible refine (Check _ _ _ _).mono ?_); rintro e v1 ⟨rfl, hb⟩; have hs := hb.size; (try simp only [World.size_alloc, World.size_setCell, World.size_drew, World.heap_drewN] at hs); have hx : ∀ o, v1.cell? ⟨w.heap.size, o, none⟩ = _ := fun o => hb.cell (p := ⟨w.heap.size, o, none⟩) (by (try simp only [World.size_alloc, World.size_setCell, World.size_drew, World.heap_drewN]); omega); have hx : ∀ o, v1.cell? ⟨b, o, none⟩ = _ := fun o => hb.cell (p := ⟨b, o, none⟩) (by (try simp only [World.size_alloc, World.size_setCell, World.size_drew, World.heap_drewN]); omega); have hx : ∀ o, v1.cell? ⟨wO.heap.size, o, none⟩ = _ := fun o => hb.cell (p := ⟨wO.heap.size, o, none⟩) (by (try simp only [World.size_alloc, World.size_setCell, World.size_drew, World.heap_drewN]); omega); have hx : ∀ o, v1.cell? ⟨(wO.heap.size + 1), o, none⟩ = _ := fun o => hb.cell (p := ⟨(wO.heap.size + 1), o, none⟩) (by (try simp only [World.size_alloc, World.size_setCell, World.size_drew, World.heap_drewN]); omega); have hx : ∀ o, v1.cell? ⟨(wO.heap.size + 1 + 1), o, none⟩ = _ := fun o => hb.cell (p := ⟨(wO.heap.size + 1 + 1), o, none⟩) (by (try simp only [World.size_alloc, World.size_setCell, World.size_drew, World.heap_drewN]); omega); have n_ : Hid (Below wB.heap.size wB v1) := hid (below_step (by repeat (first | exact HB.out | exact Below.refl _ _ | apply below_alloc | apply below_drewN | apply below_drew | refine below_set ?_ (by (try simp only [World.size_alloc, World.size_setCell, World.size_drew, World.heap_drewN]); omega))) hb); clear HB; have HB := n_; clear n_; clear hb) | (go_at_call 15; (with_reducible refine (num _ _).mono ?_); rintro e v1 ⟨rfl, hb⟩; have hs := hb.size; (try simp only [World.size_alloc, World.size_setCell, World.size_drew, World.heap_drewN] at hs); have hx : ∀ o, v1.cell? ⟨w.heap.size, o, none⟩ = _ := fun o => hb.cell (p := ⟨w.heap.size, o, none⟩) (by (try simp only [World.size_alloc, World.size_setCell, World.size_drew, World.heap_drewN]); omega); have hx : ∀ o, v1.cell? ⟨b, o, none⟩ = _ := fun o => hb.cell (p := ⟨b, o, none⟩) (by (try simp only [World.size_alloc, World.size_setCell, World.size_drew, World.heap_drewN]); omega); have hx : ∀ o, v1.cell? ⟨wO.heap.size, o, none⟩ = _ := fun o => hb.cell (p := ⟨wO.heap.size, o, none⟩) (by (try simp only [World.size_alloc, World.size_setCell, World.size_drew, World.heap_drewN]); omega); have hx : ∀ o, v1.cell? ⟨(wO.heap.size + 1), o, none⟩ = _ := fun o => hb.cell (p := ⟨(wO.heap.size + 1), o, none⟩) (by (try simp only [World.size_alloc, World.size_setCell, World.size_drew, World.heap_drewN]); omega); have hx : ∀ o, v1.cell? ⟨(wO.heap.size + 1 + 1), o, none⟩ = _ := fun o => hb.cell (p := ⟨(wO.heap.size + 1 + 1), o, none⟩) (by (try simp only [World.size_alloc, World.size_setCell, World.size_drew, World.heap_drewN]); omega); have n_ : Hid (Below wB.heap.size wB v1) := hid (below_step (by repeat (first | exact HB.out | exact Below.refl _ _ | apply below_alloc | apply below_drewN | apply below_drew | refine below_set ?_ (by (try simp only [World.size_alloc, World.size_setCell, World.size_drew, World.heap_drewN]); omega))) hb); clear HB; have HB := n_; clear n_; clear hb))
            go_roundw
            case rel => exact ⟨k + 1, ⟨by omega, by omega⟩, by go_num, HB⟩
            case measure => simp [intOf]; omega
          · cases h2 : mayB (smn (S k) (S (k + 1))) (smx (S k) (S (k + 1))) false
            · go_wp2_with (first | (go_at_call 23; (with_reducible refine (Check _ _ _ _).mono ?_); rintro e v1 ⟨rfl, hb⟩; have hs := hb.size; (try simp only [World.size_alloc, World.size_setCell, World.size_drew, World.heap_drewN] at hs); have hx : ∀ o, v1.cell? ⟨w.heap.size, o, none⟩ = _ := fun o => hb.cell (p := ⟨w.heap.size, o, none⟩) (by (try simp only [World.size_alloc, World.size_setCell, World.size_drew, World.heap_drewN]); omega); have hx : ∀ o, v1.cell? ⟨b, o, none⟩ = _ := fun o => hb.cell (p := ⟨b, o, none⟩) (by (try simp only [World.size_alloc, World.size_setCell, World.size_drew, World.heap_drewN]); omega); have hx : ∀ o, v1.cell? ⟨wO.heap.size, o, none⟩ = _ := fun o => hb.cell (p := ⟨wO.heap.size, o, none⟩) (by (try simp only [World.size_alloc, World.size_setCell, World.size_drew, World.heap_drewN]); omega); have hx : ∀ o, v1.cell? ⟨(wO.heap.size + 1), o, none⟩ = _ := fun o => hb.cell (p := ⟨(wO.heap.size + 1), o, none⟩) (by (try simp only [World.size_alloc, World.size_setCell, World.size_drew, World.heap_drewN]); omega); have hx : ∀ o, v1.cell? ⟨(wO.heap.size + 1 + 1), o, none⟩ = _ := fun o => hb.cell (p := ⟨(wO.heap.size + 1 + 1), o, none⟩) (by (try simp only [World.size_alloc, World.size_setCell, World.size_drew, World.heap_drewN]); omega); have n_ : Hid (Below wB.heap.size wB v1) := hid (below_step (by repeat (first | exact HB.out | exact Below.refl _ _ | apply below_alloc | apply below_drewN | apply below_drew | refine below_set ?_ (by (try simp only [World.size_alloc, World.size_setCell, World.size_drew, World.heap_drewN]); omega))) hb); clear HB; have HB := n_; clear n_; clear hb) | (go_at_call 15; (with_reducible refine (num _ _).mono ?_); rintro e v1 ⟨rfl, hb⟩; have hs := hb.size; (try simp only [World.size_alloc, World.size_setCell, World.size_drew, World.heap_drewN] at hs); have hx : ∀ o, v1.cell? ⟨w.heap.size, o, none⟩ = _ := fun o => hb.cell (p := ⟨w.heap.size, o, none⟩) (by (try simp only [World.size_alloc, World.size_setCell, World.size_drew, World.heap_drewN]); omega); have hx : ∀ o, v1.cell? ⟨b, o, none⟩ = _ := fun o => hb.cell (p := ⟨b, o, none⟩) (by (try simp only [World.size_alloc, World.size_setCell, World.size_drew, World.heap_drewN]); omega); have hx : ∀ o, v1.cell? ⟨wO.heap.size, o, none⟩ = _ := fun o => hb.cell (p := ⟨wO.heap.size, o, none⟩) (by (try simp only [World.size_alloc, World.size_setCell, World.size_drew, World.heap_drewN]); omega); have hx : ∀ o, v1.cell? ⟨(wO.heap.size + 1), o, none⟩ = _ := fun o => hb.cell (p := ⟨(wO.heap.size + 1), o, none⟩) (by (try simp only [World.size_alloc, World.size_setCell, World.size_drew, World.heap_drewN]); omega); have hx : ∀ o, v1.cell? ⟨(wO.heap.size + 1 + 1), o, none⟩ = _ := fun o => hb.cell (p := ⟨(wO.heap.size + 1 + 1), o, none⟩) (by (try simp only [World.size_alloc, World.size_setCell, World.size_drew, World.heap_drewN]); omega); have n_ : Hid (Below wB.heap.size wB v1) := hid (below_step (by repeat (first | exact HB.out | exact Below.refl _ _ | apply below_alloc | apply below_drewN | apply below_drew | refine below_set ?_ (by (try simp only [World.size_alloc, World.size_setCell, World.size_drew, World.heap_drewN]); omega))) hb); clear HB; have HB := n_; clear n_; clear hb))
              go_roundw
              case rel => exact ⟨k + 1, ⟨by omega, by omega⟩, by go_num, HB⟩
              case measure => simp [intOf]; omega
            · cases h3 : mayB (smx (S k) (S (k + 1))) ⟨#[]⟩ true
              · go_wp2_with (first | (go_at_call 23; (with_reducible refine (Check _ _ _ _).mono ?_); rintro e v1 ⟨rfl, hb⟩; have hs := hb.size; (try simp only [World.size_alloc, World.size_setCell, World.size_drew, World.heap_drewN] at hs); have hx : ∀ o, v1.cell? ⟨w.heap.size, o, none⟩ = _ := fun o => hb.cell (p := ⟨w.heap.size, o, none⟩) (by (try simp only [World.size_alloc, World.size_setCell, World.size_drew, World.heap_drewN]); omega); have hx : ∀ o, v1.cell? ⟨b, o, none⟩ = _ := fun o => hb.cell (p := ⟨b, o, none⟩) (by (try simp only [World.size_alloc, World.size_setCell, World.size_drew, World.heap_drewN]); omega); have hx : ∀ o, v1.cell? ⟨wO.heap.size, o, none⟩ = _ := fun o => hb.cell (p := ⟨wO.heap.size, o, none⟩) (by (try simp only [World.size_alloc, World.size_setCell, World.size_drew, World.heap_drewN]); omega); have hx : ∀ o, v1.cell? ⟨(wO.heap.size + 1), o, none⟩ = _ := fun o => hb.cell (p := ⟨(wO.heap.size + 1), o, none⟩) (by (try simp only [World.size_alloc, World.size_setCell, World.size_drew, World.heap_drewN]); omega); have hx : ∀ o, v1.cell? ⟨(wO.heap.size + 1 + 1), o, none⟩ = _ := fun o => hb.cell (p := ⟨(wO.heap.size + 1 + 1), o, none⟩) (by (try simp only [World.size_alloc, World.size_setCell, World.size_drew, World.heap_drewN]); omega); have n_ : Hid (Below wB.heap.size wB v1) := hid (below_step (by repeat (first | exact HB.out | exact Below.refl _ _ | apply below_alloc | apply below_drewN | apply below_drew | refine below_set ?_ (by (try simp only [World.size_alloc, World.size_setCell, World.size_drew, World.heap_drewN]); omega))) hb); clear HB; have HB := n_; clear n_; clear hb) | (go_at_call 15; (with_reducible refine (num _ _).mono ?_); rintro e v1 ⟨rfl, hb⟩; have hs := hb.size; (try simp only [World.size_alloc, World.size_setCell, World.size_drew, World.heap_drewN] at hs); have hx : ∀ o, v1.cell? ⟨w.heap.size, o, none⟩ = _ := fun o => hb.cell (p := ⟨w.heap.size, o, none⟩) (by (try simp only [World.size_alloc, World.size_setCell, World.size_drew, World.heap_drewN]); omega); have hx : ∀ o, v1.cell? ⟨b, o, none⟩ = _ := fun o => hb.cell (p := ⟨b, o, none⟩) (by (try simp only [World.size_alloc, World.size_setCell, World.size_drew, World.heap_drewN]); omega); have hx : ∀ o, v1.cell? ⟨wO.heap.size, o, none⟩ = _ := fun o => hb.cell (p := ⟨wO.heap.size, o, none⟩) (by (try simp only [World.size_alloc, World.size_setCell, World.size_drew, World.heap_drewN]); omega); have hx : ∀ o, v1.cell? ⟨(wO.heap.size + 1), o, none⟩ = _ := fun o => hb.cell (p := ⟨(wO.heap.size + 1), o, none⟩) (by (try simp only [World.size_alloc, World.size_setCell, World.size_drew, World.heap_drewN]); omega); have hx : ∀ o, v1.cell? ⟨(wO.heap.size + 1 + 1), o, none⟩ = _ := fun o => hb.cell (p := ⟨(wO.heap.size + 1 + 1), o, none⟩) (by (try simp only [World.size_alloc, World.size_setCell, World.size_drew, World.heap_drewN]); omega); have n_ : Hid (Below wB.heap.size wB v1) := hid (below_step (by repeat (first | exact HB.out | exact Below.refl _ _ | apply below_alloc | apply below_drewN | apply below_drew | refine below_set ?_ (by (try simp only [World.size_alloc, World.size_setCell, World.size_drew, World.heap_drewN]); omega))) hb); clear HB; have HB := n_; clear n_; clear hb))
                go_roundw
                case rel => exact ⟨k + 1, ⟨by omega, by omega⟩, by go_num, HB⟩
                case measure => simp [intOf]; omega
              · have hsh := share_no hab
                go_wp2_with (first | (go_at_call 23; (with_reducible refine (Check _ _ _ _).mono ?_); rintro e v1 ⟨rfl, hb⟩; have hs := hb.size; (try simp only [World.size_alloc, World.size_setCell, World.size_drew, World.heap_drewN] at hs); have hx : ∀ o, v1.cell? ⟨w.heap.size, o, none⟩ = _ := fun o => hb.cell (p := ⟨w.heap.size, o, none⟩) (by (try simp only [World.size_alloc, World.size_setCell, World.size_drew, World.heap_drewN]); omega); have hx : ∀ o, v1.cell? ⟨b, o, none⟩ = _ := fun o => hb.cell (p := ⟨b, o, none⟩) (by (try simp only [World.size_alloc, World.size_setCell, World.size_drew, World.heap_drewN]); omega); have hx : ∀ o, v1.cell? ⟨wO.heap.size, o, none⟩ = _ := fun o => hb.cell (p := ⟨wO.heap.size, o, none⟩) (by (try simp only [World.size_alloc, World.size_setCell, World.size_drew, World.heap_drewN]); omega); have hx : ∀ o, v1.cell? ⟨(wO.heap.size + 1), o, none⟩ = _ := fun o => hb.cell (p := ⟨(wO.heap.size + 1), o, none⟩) (by (try simp only [World.size_alloc, World.size_setCell, World.size_drew, World.heap_drewN]); omega); have hx : ∀ o, v1.cell? ⟨(wO.heap.size + 1 + 1), o, none⟩ = _ := fun o => hb.cell (p := ⟨(wO.heap.size + 1 + 1), o, none⟩) (by (try simp only [World.size_alloc, World.size_setCell, World.size_drew, World.heap_drewN]); omega); have n_ : Hid (Below wB.heap.size wB v1) := hid (below_step (by repeat (first | exact HB.out | exact Below.refl _ _ | apply below_alloc | apply below_drewN | apply below_drew | refine below_set ?_ (by (try simp only [World.size_alloc, World.size_setCell, World.size_drew, World.heap_drewN]); omega))) hb); clear HB; have HB := n_; clear n_; clear hb) | (go_at_call 28; (with_reducible refine (Over _ _ _ _ _ _ _).mono ?_); rintro e v1 ⟨rfl, hb⟩; have hs := hb.size; (try simp only [World.size_alloc, World.size_setCell, World.size_drew, World.heap_drewN] at hs); have hx : ∀ o, v1.cell? ⟨w.heap.size, o, none⟩ = _ := fun o => hb.cell (p := ⟨w.heap.size, o, none⟩) (by (try simp only [World.size_alloc, World.size_setCell, World.size_drew, World.heap_drewN]); omega); have hx : ∀ o, v1.cell? ⟨b, o, none⟩ = _ := fun o => hb.cell (p := ⟨b, o, none⟩) (by (try simp only [World.size_alloc, World.size_setCell, World.size_drew, World.heap_drewN]); omega); have hx : ∀ o, v1.cell? ⟨wO.heap.size, o, none⟩ = _ := fun o => hb.cell (p := ⟨wO.heap.size, o, none⟩) (by (try simp only [World.size_alloc, World.size_setCell, World.size_drew, World.heap_drewN]); omega); have hx : ∀ o, v1.cell? ⟨(wO.heap.size + 1), o, none⟩ = _ := fun o => hb.cell (p := ⟨(wO.heap.size + 1), o, none⟩) (by (try simp only [World.size_alloc, World.size_setCell, World.size_drew, World.heap_drewN]); omega); have hx : ∀ o, v1.cell? ⟨(wO.heap.size + 1 + 1), o, none⟩ = _ := fun o => hb.cell (p := ⟨(wO.heap.size + 1 + 1), o, none⟩) (by (try simp only [World.size_alloc, World.size_setCell, World.size_drew, World.heap_drewN]); omega); have n_ : Hid (Below wB.heap.size wB v1) := hid (below_step (by repeat (first | exact HB.out | exact Below.refl _ _ | apply below_alloc | apply below_drewN | apply below_drew | refine below_set ?_ (by (try simp only [World.size_alloc, World.size_setCell, World.size_drew, World.heap_drewN]); omega))) hb); clear HB; have HB := n_; clear n_; clear hb) | (go_at_call 15; (with_reducible refine (num _ _).mono ?_); rintro e v1 ⟨rfl, hb⟩; have hs := hb.size; (try simp only [World.size_alloc, World.size_setCell, World.size_drew, World.heap_drewN] at hs); have hx : ∀ o, v1.cell? ⟨w.heap.size, o, none⟩ = _ := fun o => hb.cell (p := ⟨w.heap.size, o, none⟩) (by (try simp only [World.size_alloc, World.size_setCell, World.size_drew, World.heap_drewN]); omega); have hx : ∀ o, v1.cell? ⟨b, o, none⟩ = _ := fun o => hb.cell (p := ⟨b, o, none⟩) (by (try simp only [World.size_alloc, World.size_setCell, World.size_drew, World.heap_drewN]); omega); have hx : ∀ o, v1.cell? ⟨wO.heap.size, o, none⟩ = _ := fun o => hb.cell (p := ⟨wO.heap.size, o, none⟩) (by (try simp only [World.size_alloc, World.size_setCell, World.size_drew, World.heap_drewN]); omega); have hx : ∀ o, v1.cell? ⟨(wO.heap.size + 1), o, none⟩ = _ := fun o => hb.cell (p := ⟨(wO.heap.size + 1), o, none⟩) (by (try simp only [World.size_alloc, World.size_setCell, World.size_drew, World.heap_drewN]); omega); have hx : ∀ o, v1.cell? ⟨(wO.heap.size + 1 + 1), o, none⟩ = _ := fun o => hb.cell (p := ⟨(wO.heap.size + 1 + 1), o, none⟩) (by (try simp only [World.size_alloc, World.size_setCell, World.size_drew, World.heap_drewN]); omega); have n_ : Hid (Below wB.heap.size wB v1) := hid (below_step (by repeat (first | exact HB.out | exact Below.refl _ _ | apply below_alloc | apply below_drewN | apply below_drew | refine below_set ?_ (by (try simp only [World.size_alloc, World.size_setCell, World.size_drew, World.heap_drewN]); omega))) hb); clear HB; have HB := n_; clear n_; clear hb))
                rename World => wC
                have hsB := HB.out.size
                have hC0 := bc_cell (b := wC) (k := w.heap.size) (o := 0) (v := .slice (some ⟨b, o, none⟩) n c) (by exact (HB.out.cell (p := ⟨w.heap.size, 0, none⟩) (by simp; omega)).trans hp0) (by first | omega | (simp; omega))
                have hC1 := bc_cell (b := wC) (k := wO.heap.size) (o := 0) (v := .string (smn (S k) (S (k + 1)))) (by go_simp) (by first | omega | (simp; omega))
                have hC2 := bc_cell (b := wC) (k := wO.heap.size) (o := 1) (v := .string ⟨#[]⟩) (by go_simp) (by first | omega | (simp; omega))
                have hC3 := bc_cell (b := wC) (k := wO.heap.size) (o := 2) (v := .bool true) (by go_simp) (by first | omega | (simp; omega))
                have hC4 := bc_cell (b := wC) (k := (wO.heap.size + 1)) (o := 0) (v := .string (smn (S k) (S (k + 1)))) (by go_simp) (by first | omega | (simp; omega))
                have hC5 := bc_cell (b := wC) (k := (wO.heap.size + 1)) (o := 1) (v := .string (smx (S k) (S (k + 1)))) (by go_simp) (by first | omega | (simp; omega))
                have hC6 := bc_cell (b := wC) (k := (wO.heap.size + 1)) (o := 2) (v := .bool false) (by go_simp) (by first | omega | (simp; omega))
                have hC7 := bc_cell (b := wC) (k := (wO.heap.size + 1 + 1)) (o := 0) (v := .string (smx (S k) (S (k + 1)))) (by go_simp) (by first | omega | (simp; omega))
                have hC8 := bc_cell (b := wC) (k := (wO.heap.size + 1 + 1)) (o := 1) (v := .string ⟨#[]⟩) (by go_simp) (by first | omega | (simp; omega))
                have hC9 := bc_cell (b := wC) (k := (wO.heap.size + 1 + 1)) (o := 2) (v := .bool true) (by go_simp) (by first | omega | (simp; omega))
                go_loopw [11] (fun u wr => ∃ j : Nat, j ≤ n ∧ u = .int .i64 j ∧ BelowC wC wr) (fun u _ => n - (intOf u).toNat)
                case atStart => exact ⟨0, by omega, rfl, bc_refl _⟩
                case round =>
                  obtain ⟨j, hj, rfl, HC⟩ := hrel
                  by_cases hlt2 : j < n
                  · have hcj : ∀ w', BelowC wC w' → w'.cell? ⟨b, o + j, none⟩ = some (.string (S j)) := by
                      obtain ⟨b2, o2, e2, hb2, hc2⟩ := (Strs_below H0.out HB.out).2 (by omega)
                      simp only [Option.some.injEq, Addr.mk.injEq] at e2
                      obtain ⟨rfl, rfl, -⟩ := e2
                      exact bc_cell (hc2 j hlt2) hb2
                    have j3 : (j : Int) < (n : Int) := by omega
                    by_cases h12 : j < 12
                    · have e1 : ∀ s, holdsB (smn (S k) (S (k + 1))) ⟨#[]⟩ true s = !lt s (smn (S k) (S (k + 1))) := fun s => by simp [holdsB]
                      have e2 : ∀ s, holdsB (smn (S k) (S (k + 1))) (smx (S k) (S (k + 1))) false s = (!lt s (smn (S k) (S (k + 1))) && lt s (smx (S k) (S (k + 1)))) := fun s => by simp [holdsB]
                      have e3 : ∀ s, holdsB (smx (S k) (S (k + 1))) ⟨#[]⟩ true s = !lt s (smx (S k) (S (k + 1))) := fun s => by simp [holdsB]
                      have hor : lt (S j) (smn (S k) (S (k + 1))) = true → lt (S j) (smx (S k) (S (k + 1))) = true := fun h => lt_le h hab
                      have Hor := hid hor
                      clear hor
                      go_wp2_with fail
                      go_region_held3 (fun w' => BelowC wC w') (repeat (first | assumption | exact bc_step (by assumption) (by assumption) | apply bc_alloc | apply bc_drewN | apply bc_drew)) (first | (go_at_call 19; refine (Has _ _ _ _ _).mono ?_; rintro e v1 ⟨rfl, hb⟩))
                      go_wp2_with fail
                      go_region_held3 (fun w' => BelowC wC w') (repeat (first | assumption | exact bc_step (by assumption) (by assumption) | apply bc_alloc | apply bc_drewN | apply bc_drew)) (first | (go_at_call 19; refine (Has _ _ _ _ _).mono ?_; rintro e v1 ⟨rfl, hb⟩))
                      go_wp2_with fail
                      go_region_held3 (fun w' => BelowC wC w') (repeat (first | assumption | exact bc_step (by assumption) (by assumption) | apply bc_alloc | apply bc_drewN | apply bc_drew)) (first | (go_at_call 19; refine (Has _ _ _ _ _).mono ?_; rintro e v1 ⟨rfl, hb⟩))
                      rename World => wD
                      have hD : BelowC wC wD := by assumption
                      have HB : Hid (Below wB.heap.size wB wD) := hid (below_step HB.out hD)
                      cases hi : isB (S j)
                      · go_wp2_with (first | (go_at_call 15; (with_reducible refine (num' _ _).mono ?_); rintro e v1 ⟨rfl, rfl⟩))
                        go_roundw
                        case rel => exact ⟨j + 1, by omega, by go_num, hD⟩
                        case measure => simp [intOf]; omega
                      · cases ha : lt (S j) (smn (S k) (S (k + 1))) <;> cases hb2 : lt (S j) (smx (S k) (S (k + 1)))
                        · go_wp2_with (first | (go_at_call 15; (with_reducible refine (num' _ _).mono ?_); rintro e v1 ⟨rfl, rfl⟩))
                          go_roundw
                          case rel => exact ⟨j + 1, by omega, by go_num, hD⟩
                          case measure => simp [intOf]; omega
                        · go_wp2_with (first | (go_at_call 15; (with_reducible refine (num' _ _).mono ?_); rintro e v1 ⟨rfl, rfl⟩))
                          go_roundw
                          case rel => exact ⟨j + 1, by omega, by go_num, hD⟩
                          case measure => simp [intOf]; omega
                        · exact absurd (Hor.out ha) (by rw [hb2]; simp)
                        · go_wp2_with (first | (go_at_call 15; (with_reducible refine (num' _ _).mono ?_); rintro e v1 ⟨rfl, rfl⟩))
                          go_roundw
                          case rel => exact ⟨j + 1, by omega, by go_num, hD⟩
                          case measure => simp [intOf]; omega
                    · go_wp2_with fail
                      go_roundw
                      case rel => exact ⟨k + 1, ⟨by omega, by omega⟩, by go_num, hid (below_step HB.out HC)⟩
                      case measure => simp [intOf]; omega
                  · go_wp2_with fail
                    go_roundw
                    case rel => exact ⟨k + 1, ⟨by omega, by omega⟩, by go_num, hid (below_step HB.out HC)⟩
                    case measure => simp [intOf]; omega
        · go_wp2_with (first | (go_at_call 27; (with_reducible refine (wakes _).mono ?_); rintro e v1 ⟨rfl, hb⟩; have hs := hb.size; (try simp only [World.size_alloc, World.size_setCell, World.size_drew, World.heap_drewN] at hs); have hx : ∀ o, v1.cell? ⟨w.heap.size, o, none⟩ = _ := fun o => hb.cell (p := ⟨w.heap.size, o, none⟩) (by (try simp only [World.size_alloc, World.size_setCell, World.size_drew, World.heap_drewN]); omega); have n_ : Hid (Below wB.heap.size wB v1) := hid (below_step (by repeat (first | exact HB.out | exact Below.refl _ _ | apply below_alloc | apply below_drewN | apply below_drew | refine below_set ?_ (by (try simp only [World.size_alloc, World.size_setCell, World.size_drew, World.heap_drewN]); omega))) hb); clear HB; have HB := n_; clear n_; clear hb))
          go_returns
          exact ⟨rfl, below_step HW.out HB.out⟩
      · go_wp2_with (first | (go_at_call 27; (with_reducible refine (wakes _).mono ?_); rintro e v1 ⟨rfl, hb⟩; have hs := hb.size; (try simp only [World.size_alloc, World.size_setCell, World.size_drew, World.heap_drewN] at hs); have hx : ∀ o, v1.cell? ⟨w.heap.size, o, none⟩ = _ := fun o => hb.cell (p := ⟨w.heap.size, o, none⟩) (by (try simp only [World.size_alloc, World.size_setCell, World.size_drew, World.heap_drewN]); omega); have n_ : Hid (Below wB.heap.size wB v1) := hid (below_step (by repeat (first | exact HB.out | exact Below.refl _ _ | apply below_alloc | apply below_drewN | apply below_drew | refine below_set ?_ (by (try simp only [World.size_alloc, World.size_setCell, World.size_drew, World.heap_drewN]); omega))) hb); clear HB; have HB := n_; clear n_; clear hb))
        go_returns
        exact ⟨rfl, below_step HW.out HB.out⟩
  · go_wp2_with fail
    go_returns
    exact ⟨rfl, HW.out⟩
end Go.Proofs.Ytjlaphnpajeoeaa.K
