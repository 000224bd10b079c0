/- KeyBoth's walk -/
import Derived.Test.YtjlaphnpajeoeaaProg
import Derived.Below
import Derived.WalkKit
import Derived.KernelRfl
import Derived.RowKit
import Derived.RowKit3
import Derived.Tactics
import Derived.Deep.QuietTactic
import Derived.BigQuiet
import Derived.OwnWalk
import Derived.Outline
import Derived.Handy
import Derived.StillTailTactics
import Derived.Deep.RegionHeld3
import Derived.Deep.DeepCutAuto
import Derived.Deep.CutBlock
import Derived.Lib.Strings
import Derived.Test.YtjlaphnpajeoeaaK2
import Derived.Test.YtjlaphnpajeoeaaH1
import Derived.Test.YtjlaphnpajeoeaaP2
import Derived.Test.YtjlaphnpajeoeaaQ1
namespace Go.Proofs.Ytjlaphnpajeoeaa.K
open Go.RowKit Go.Proofs.YtjlaphnpajeoeaaS
set_option linter.unusedSimpArgs false
set_option linter.unusedVariables false
attribute [local go_sem] s_leq s_gtr s_geq s_maxr s_minr

theorem num' (n : Int) (w : World) : Calls Try.prog 15 #[.int .i64 n] w fun e w' => e = .returned (.int .i64 n) ∧ w = w' := by
  go_enter Try.func15, Try.ntmps15
  go_wp2
  go_returns
  exact ⟨rfl, rfl⟩
theorem bc_alloc2 {b W : World} (h : BelowC b W) (o o' : Obj) : BelowC b ((W.alloc o).alloc o') := bc_alloc (bc_alloc h o) o'
theorem bc_alloc3 {b W : World} (h : BelowC b W) (o o' o'' : Obj) : BelowC b (((W.alloc o).alloc o').alloc o'') := bc_alloc (bc_alloc2 h o o') o''
attribute [local go_sem] bc_alloc2 bc_alloc3 s_alloc_drewN s_setCell_drewN bc_alloc bc_drewN bc_drew
theorem bc_set {b W : World} {g j : Nat} {v : Value} (h : BelowC b W) (hg : b.heap.size ≤ g) : BelowC b (W.setCell ⟨g, j, none⟩ v) := below_set h hg
theorem bc_frozen {b : World} {k : Nat} (h : ∀ o, b.frozen? ⟨k, o, none⟩ = false) (hk : k < b.heap.size) : ∀ w', BelowC b w' → ∀ o, w'.frozen? ⟨k, o, none⟩ = false := fun w' hw o => (Below.frozen hw (p := ⟨k, o, none⟩) hk).trans (h o)
/-- A range in a variable of its own. -/
structure Box3 (w : World) (g : Nat) (r : Rng) : Prop where
  lt : g < w.heap.size
  c0 : w.cell? ⟨g, 0, none⟩ = some (.string r.lo)
  c1 : w.cell? ⟨g, 1, none⟩ = some (.string r.hi)
  c2 : w.cell? ⟨g, 2, none⟩ = some (.bool r.top)
theorem Box3.below {w w' : World} {g : Nat} {r : Rng} (h : Box3 w g r) (hb : BelowC w w') : Box3 w' g r :=
  ⟨bc_lt hb h.lt, bc_cell h.c0 h.lt w' hb, bc_cell h.c1 h.lt w' hb, bc_cell h.c2 h.lt w' hb⟩
set_option maxRecDepth 100000 in
set_option maxHeartbeats 20000000 in
theorem KeyBoth (A A' : Option Addr) (n c n' c' : Nat) (S : Nat → ByteArray) (R : Nat → Rng) (w : World) (h : Strs w A n S) (h' : Rngs w A' n' R) :
    Calls Try.prog 7 #[.agg #[.slice A n c, .slice A' n' c']] w (Ret (.bool true) w) := by
  have hn := h.1
  have hn' := h'.1
  have H := hid h
  have H' := hid h'
  clear h h'
  go_enter Try.func7, Try.ntmps7
  go_wp2_with fail
  refine (Heavy A A' n c n' c' S R _ (Strs_below H.out (by repeat (first | exact Below.refl _ _ | apply below_alloc | apply below_drewN | apply below_drew))) (Rngs_below H'.out (by repeat (first | exact Below.refl _ _ | apply below_alloc | apply below_drewN | apply below_drew)))).mono ?_
  rintro e wB ⟨hv, rfl, hb⟩
  have HW : Hid (Below w.heap.size w wB) := hid (below_step (by repeat (first | exact Below.refl _ _ | apply below_alloc | apply below_drewN | apply below_drew)) hb)
  have hg := hb.size
  (try simp only [World.size_alloc, World.size_setCell, World.size_drew, World.heap_drewN] at hg)
  have hp0 : wB.cell? ⟨w.heap.size, 0, none⟩ = some (.slice A n c) := (hb.cell (p := ⟨w.heap.size, 0, none⟩) (by simp)).trans (by simp)
  have hp1 : wB.cell? ⟨w.heap.size, 1, none⟩ = some (.slice A' n' c') := (hb.cell (p := ⟨w.heap.size, 1, none⟩) (by simp)).trans (by simp)
  clear hb
  have H0 : Hid (Strs wB A n S) := hid (Strs_below H.out HW.out)
  have H0' : Hid (Rngs wB A' n' R) := hid (Rngs_below H'.out HW.out)
  clear H H'
  have HB : Hid (Below wB.heap.size wB wB) := hid (Below.refl _ _)
  cases hv
  · have ok0 : oks false = 1 := rfl
    have ok1 : oks true = 0 := rfl
    have hP0 := bc_cell hp0 (by omega)
    have hP1 := bc_cell hp1 (by omega)
    go_wp2_with fail
    go_loopw [3] (fun u wr => ∃ i : Nat, (i ≤ n' ∧ i ≤ 6) ∧ u = .int .i64 i ∧ BelowC wB wr) (fun u _ => n' - (intOf u).toNat)
    case atStart => exact ⟨0, ⟨by omega, by omega⟩, rfl, bc_refl _⟩
    case round =>
      clear HB
      obtain ⟨i, hi, rfl, HJ⟩ := hrel
      rename World => wJ
      by_cases hlt : i + 1 < n'
      · by_cases h6 : i < 6
        · have hb6 : decide ((i : Int) < 6) = true := decide_eq_true (by omega)
          obtain ⟨b, o, rfl, hb0, hc⟩ := H0'.out.2 (by omega)
          obtain ⟨ci0, ci1, ci2⟩ := hc i (by omega)
          obtain ⟨cj0, cj1, cj2⟩ := hc (i + 1) hlt
          clear hc
          have hI0 := bc_cell ci0 hb0
          have hI1 := bc_cell ci1 hb0
          have hI2 := bc_cell ci2 hb0
          have hJ0 := bc_cell cj0 hb0
          have hJ1 := bc_cell cj1 hb0
          have hJ2 := bc_cell cj2 hb0
          have i1 : ((i : Int) + 1) < (n' : Int) := by omega
          have i2 : (0 : Int) ≤ (i : Int) + 1 := by omega
          have i3 : (i : Int) < (n' : Int) := by omega
          have i4 : ((i : Int) + 1).toNat = i + 1 := by omega
          have hsJ := bc_size HJ
          clear ci0 ci1 ci2 cj0 cj1 cj2
          have i5 : IntKind.i64.wrap ((i : Int) + 1) = (i : Int) + 1 := IntWalk.i64_in _ ⟨by omega, by omega⟩
          go_upto_region 6 with (fail)
          go_cut [4, 5] (fun u v wc => ∃ ga gb : Nat, u = .pointer (some ⟨ga, 0, none⟩) ∧ v = .pointer (some ⟨gb, 0, none⟩) ∧ Box3 wc ga (R i) ∧ Box3 wc gb (R (i + 1)) ∧ BelowC wB wc)
          case first =>
            go_wp2_with fail
            go_region_held3 (fun w' => BelowC wB w') (repeat (with_reducible first | assumption | exact bc_step (by with_reducible assumption) (by with_reducible assumption) | apply bc_drew | apply bc_drewN | apply bc_alloc | refine bc_set ?_ (by omega))) (fail)
            all_goals
              go_wp2_with fail
              go_meet
              case rel => exact ⟨_, _, rfl, rfl, ⟨by first | (simp; done) | (simp; omega), by go_simp, by go_simp, by go_simp⟩, ⟨by first | (simp; done) | (simp; omega), by go_simp, by go_simp, by go_simp⟩, by assumption⟩
          case rest =>
            obtain ⟨ga, gb, rfl, rfl, hBa, hBb, HX⟩ := hcut
            rename World => wC
            clear i5
            have HC : BelowC wC wC := bc_refl _
            have HBC := hid HX
            clear HX
            have hA0 := bc_cell hBa.c0 hBa.lt
            have hA1 := bc_cell hBa.c1 hBa.lt
            have hA2 := bc_cell hBa.c2 hBa.lt
            have hB0 := bc_cell hBb.c0 hBb.lt
            have hB1 := bc_cell hBb.c1 hBb.lt
            have hB2 := bc_cell hBb.c2 hBb.lt
            cases h1 : mayB (R i).lo (R i).hi (R i).top <;> cases h2 : mayB (R (i + 1)).lo (R (i + 1)).hi (R (i + 1)).top
            · have hbv : bothV (R i).lo (R i).hi (R i).top (R (i + 1)).lo (R (i + 1)).hi (R (i + 1)).top = rng0 := by simp [bothV, h1, h2]
              go_wp2_with fail
              refine (Both _ _ _ _ _ _ _).mono ?_
              rintro e wD ⟨rfl, hb⟩
              have HD : BelowC wC wD := bc_step (by repeat (with_reducible first | assumption | apply bc_alloc | apply bc_drewN | apply bc_drew)) hb
              clear hb
              go_wp2_with fail
              refine (In _ _ _ _ _ _ _).mono ?_
              rintro e wE ⟨rfl, hb⟩
              have HE : BelowC wC wE := bc_step (by repeat (with_reducible first | assumption | apply bc_alloc | apply bc_drewN | apply bc_drew)) hb
              have hsD := bc_size HD
              have hsE := hb.size
              (try simp only [World.size_alloc, World.size_setCell, World.size_drew, World.heap_drewN] at hsE)
              have hM : Box3 wE wD.heap.size ⟨⟨#[]⟩, ⟨#[]⟩, false⟩ := ⟨by omega, (Below.cell hb (p := ⟨wD.heap.size, 0, none⟩) (by simp; try omega)).trans (by go_simp), (Below.cell hb (p := ⟨wD.heap.size, 1, none⟩) (by simp; try omega)).trans (by go_simp), (Below.cell hb (p := ⟨wD.heap.size, 2, none⟩) (by simp; try omega)).trans (by go_simp)⟩
              clear hb
              have HE0 : BelowC wE wE := bc_refl _
              go_wp2_with (first | (go_at_call 28; (with_reducible refine (Over _ _ _ _ _ _ _).mono ?_); rintro e v1 ⟨rfl, hb⟩; have HX : BelowC wE v1 := bc_step (by repeat (with_reducible first | assumption | apply bc_alloc | apply bc_drewN | apply bc_drew)) hb; clear hb; have HY : BelowC wC v1 := bc_trans HE HX) | (go_at_call 15; (with_reducible refine (num' _ _).mono ?_); rintro e v1 ⟨rfl, rfl⟩))
              go_roundw
              case rel => exact ⟨i + 1, ⟨by omega, by omega⟩, by go_num, bc_trans HBC.out (bc_trans HE HX)⟩
              case measure => simp [intOf]; omega
            · have hbv : bothV (R i).lo (R i).hi (R i).top (R (i + 1)).lo (R (i + 1)).hi (R (i + 1)).top = rng0 := by simp [bothV, h1, h2]
              go_wp2_with fail
              refine (Both _ _ _ _ _ _ _).mono ?_
              rintro e wD ⟨rfl, hb⟩
              have HD : BelowC wC wD := bc_step (by repeat (with_reducible first | assumption | apply bc_alloc | apply bc_drewN | apply bc_drew)) hb
              clear hb
              go_wp2_with fail
              refine (In _ _ _ _ _ _ _).mono ?_
              rintro e wE ⟨rfl, hb⟩
              have HE : BelowC wC wE := bc_step (by repeat (with_reducible first | assumption | apply bc_alloc | apply bc_drewN | apply bc_drew)) hb
              have hsD := bc_size HD
              have hsE := hb.size
              (try simp only [World.size_alloc, World.size_setCell, World.size_drew, World.heap_drewN] at hsE)
              have hM : Box3 wE wD.heap.size ⟨⟨#[]⟩, ⟨#[]⟩, false⟩ := ⟨by omega, (Below.cell hb (p := ⟨wD.heap.size, 0, none⟩) (by simp; try omega)).trans (by go_simp), (Below.cell hb (p := ⟨wD.heap.size, 1, none⟩) (by simp; try omega)).trans (by go_simp), (Below.cell hb (p := ⟨wD.heap.size, 2, none⟩) (by simp; try omega)).trans (by go_simp)⟩
              clear hb
              have HE0 : BelowC wE wE := bc_refl _
              go_wp2_with (first | (go_at_call 28; (with_reducible refine (Over _ _ _ _ _ _ _).mono ?_); rintro e v1 ⟨rfl, hb⟩; have HX : BelowC wE v1 := bc_step (by repeat (with_reducible first | assumption | apply bc_alloc | apply bc_drewN | apply bc_drew)) hb; clear hb; have HY : BelowC wC v1 := bc_trans HE HX) | (go_at_call 15; (with_reducible refine (num' _ _).mono ?_); rintro e v1 ⟨rfl, rfl⟩))
              go_roundw
              case rel => exact ⟨i + 1, ⟨by omega, by omega⟩, by go_num, bc_trans HBC.out (bc_trans HE HX)⟩
              case measure => simp [intOf]; omega
            · have hbv : bothV (R i).lo (R i).hi (R i).top (R (i + 1)).lo (R (i + 1)).hi (R (i + 1)).top = rng0 := by simp [bothV, h1, h2]
              go_wp2_with fail
              refine (Both _ _ _ _ _ _ _).mono ?_
              rintro e wD ⟨rfl, hb⟩
              have HD : BelowC wC wD := bc_step (by repeat (with_reducible first | assumption | apply bc_alloc | apply bc_drewN | apply bc_drew)) hb
              clear hb
              go_wp2_with fail
              refine (In _ _ _ _ _ _ _).mono ?_
              rintro e wE ⟨rfl, hb⟩
              have HE : BelowC wC wE := bc_step (by repeat (with_reducible first | assumption | apply bc_alloc | apply bc_drewN | apply bc_drew)) hb
              have hsD := bc_size HD
              have hsE := hb.size
              (try simp only [World.size_alloc, World.size_setCell, World.size_drew, World.heap_drewN] at hsE)
              have hM : Box3 wE wD.heap.size ⟨⟨#[]⟩, ⟨#[]⟩, false⟩ := ⟨by omega, (Below.cell hb (p := ⟨wD.heap.size, 0, none⟩) (by simp; try omega)).trans (by go_simp), (Below.cell hb (p := ⟨wD.heap.size, 1, none⟩) (by simp; try omega)).trans (by go_simp), (Below.cell hb (p := ⟨wD.heap.size, 2, none⟩) (by simp; try omega)).trans (by go_simp)⟩
              clear hb
              have HE0 : BelowC wE wE := bc_refl _
              go_wp2_with (first | (go_at_call 28; (with_reducible refine (Over _ _ _ _ _ _ _).mono ?_); rintro e v1 ⟨rfl, hb⟩; have HX : BelowC wE v1 := bc_step (by repeat (with_reducible first | assumption | apply bc_alloc | apply bc_drewN | apply bc_drew)) hb; clear hb; have HY : BelowC wC v1 := bc_trans HE HX) | (go_at_call 15; (with_reducible refine (num' _ _).mono ?_); rintro e v1 ⟨rfl, rfl⟩))
              go_roundw
              case rel => exact ⟨i + 1, ⟨by omega, by omega⟩, by go_num, bc_trans HBC.out (bc_trans HE HX)⟩
              case measure => simp [intOf]; omega
            · have hbv : bothV (R i).lo (R i).hi (R i).top (R (i + 1)).lo (R (i + 1)).hi (R (i + 1)).top = rng (smx (R i).lo (R (i + 1)).lo) (meetHi (R i).lo (R i).hi (R i).top (R (i + 1)).lo (R (i + 1)).hi (R (i + 1)).top) ((R i).top && (R (i + 1)).top) := by simp [bothV, h1, h2]
              go_wp2_with fail
              refine (Both _ _ _ _ _ _ _).mono ?_
              rintro e wD ⟨rfl, hb⟩
              have HD : BelowC wC wD := bc_step (by repeat (with_reducible first | assumption | apply bc_alloc | apply bc_drewN | apply bc_drew)) hb
              clear hb
              go_wp2_with fail
              refine (In _ _ _ _ _ _ _).mono ?_
              rintro e wE ⟨rfl, hb⟩
              have HE : BelowC wC wE := bc_step (by repeat (with_reducible first | assumption | apply bc_alloc | apply bc_drewN | apply bc_drew)) hb
              have hsD := bc_size HD
              have hsE := hb.size
              (try simp only [World.size_alloc, World.size_setCell, World.size_drew, World.heap_drewN] at hsE)
              have hM : Box3 wE wD.heap.size ⟨smx (R i).lo (R (i + 1)).lo, meetHi (R i).lo (R i).hi (R i).top (R (i + 1)).lo (R (i + 1)).hi (R (i + 1)).top, (R i).top && (R (i + 1)).top⟩ := ⟨by omega, (Below.cell hb (p := ⟨wD.heap.size, 0, none⟩) (by simp; try omega)).trans (by go_simp), (Below.cell hb (p := ⟨wD.heap.size, 1, none⟩) (by simp; try omega)).trans (by go_simp), (Below.cell hb (p := ⟨wD.heap.size, 2, none⟩) (by simp; try omega)).trans (by go_simp)⟩
              clear hb
              have HE0 : BelowC wE wE := bc_refl _
              have hmb : mayB (smx (R i).lo (R (i + 1)).lo) (meetHi (R i).lo (R i).hi (R i).top (R (i + 1)).lo (R (i + 1)).hi (R (i + 1)).top) ((R i).top && (R (i + 1)).top) = true := may_both h1 h2
              have hhb : ∀ s, holdsB (smx (R i).lo (R (i + 1)).lo) (meetHi (R i).lo (R i).hi (R i).top (R (i + 1)).lo (R (i + 1)).hi (R (i + 1)).top) ((R i).top && (R (i + 1)).top) s = (holdsB (R i).lo (R i).hi (R i).top s && holdsB (R (i + 1)).lo (R (i + 1)).hi (R (i + 1)).top s) := fun s => holds_both (R i).lo (R i).hi (R i).top (R (i + 1)).lo (R (i + 1)).hi (R (i + 1)).top s
              have Hmb := hid hmb
              have Hhb := hid hhb
              clear hmb hhb
              go_wp2_with (first | (go_at_call 28; (with_reducible refine (Over _ _ _ _ _ _ _).mono ?_); rintro e v1 ⟨rfl, hb⟩; have HX : BelowC wE v1 := bc_step (by repeat (with_reducible first | assumption | apply bc_alloc | apply bc_drewN | apply bc_drew)) hb; clear hb; have HY : BelowC wC v1 := bc_trans HE HX) | (go_at_call 15; (with_reducible refine (num' _ _).mono ?_); rintro e v1 ⟨rfl, rfl⟩))
              rename World => wF
              have HF : BelowC wE wF := by assumption
              have HEF : BelowC wB wE := bc_trans HBC.out HE
              have hBa' := (hBa.below HE).below HF
              have hBb' := (hBb.below HE).below HF
              have hM' := hM.below HF
              have HBF : BelowC wB wF := bc_trans HEF HF
              have hsF := bc_size HBF
              clear hA0 hA1 hA2 hB0 hB1 hB2
              have hA0 := bc_cell hBa'.c0 hBa'.lt
              have hA1 := bc_cell hBa'.c1 hBa'.lt
              have hA2 := bc_cell hBa'.c2 hBa'.lt
              have hB0 := bc_cell hBb'.c0 hBb'.lt
              have hB1 := bc_cell hBb'.c1 hBb'.lt
              have hB2 := bc_cell hBb'.c2 hBb'.lt
              have hM0 := bc_cell hM'.c0 hM'.lt
              have hM1 := bc_cell hM'.c1 hM'.lt
              have hM2 := bc_cell hM'.c2 hM'.lt
              have hQ0 := bc_cell (hP0 wF HBF) (by omega)
              generalize hin0 : withinB (R i).lo (R i).hi (R i).top (R (i + 1)).lo (R (i + 1)).hi (R (i + 1)).top = vin
              generalize hov0 : sharesB (R i).lo (R i).hi (R i).top (R (i + 1)).lo (R (i + 1)).hi (R (i + 1)).top = vov
              have Hin := hid hin0
              have Hov := hid hov0
              clear hin0 hov0
              go_loopw [12] (fun u wr => ∃ j : Nat, (j ≤ n ∧ j ≤ 12) ∧ u = .int .i64 j ∧ BelowC wF wr) (fun u _ => n - (intOf u).toNat)
              case atStart => exact ⟨0, ⟨by omega, by omega⟩, rfl, bc_refl _⟩
              case round =>
                obtain ⟨j, hj, rfl, HG⟩ := hrel
                rename World => wG
                by_cases hlt2 : j < n
                · by_cases h12 : j < 12
                  · have hb12 : decide ((j : Int) < 12) = true := decide_eq_true (by omega)
                    have j3 : (j : Int) < (n : Int) := by omega
                    obtain ⟨bs, os, rfl, hbs, hcs⟩ := (Strs_below H0.out HBF).2 (by omega)
                    have hcj := bc_cell (hcs j hlt2) hbs
                    clear hcs
                    go_wp2_with fail
                    go_region_held3 (fun w' => BelowC wF w') (repeat (with_reducible first | assumption | exact bc_step (by with_reducible assumption) (by with_reducible assumption) | apply bc_drew | apply bc_drewN | apply bc_alloc | refine bc_set ?_ (by omega))) (first | (go_at_call 19; refine (Has _ _ _ _ _).mono ?_; rintro e v1 ⟨rfl, hb⟩))
                    go_wp2_with fail
                    go_region_held3 (fun w' => BelowC wF w') (repeat (with_reducible first | assumption | exact bc_step (by with_reducible assumption) (by with_reducible assumption) | apply bc_drew | apply bc_drewN | apply bc_alloc | refine bc_set ?_ (by omega))) (first | (go_at_call 19; refine (Has _ _ _ _ _).mono ?_; rintro e v1 ⟨rfl, hb⟩))
                    have hmb := Hmb.out
                    have hhb := Hhb.out
                    go_wp2_with fail
                    go_region_held3 (fun w' => BelowC wF w') (repeat (with_reducible first | assumption | exact bc_step (by with_reducible assumption) (by with_reducible assumption) | apply bc_drew | apply bc_drewN | apply bc_alloc | refine bc_set ?_ (by omega))) (first | (go_at_call 19; refine (Has _ _ _ _ _).mono ?_; rintro e v1 ⟨rfl, hb⟩))
                    rename World => wH
                    have HH : BelowC wF wH := by assumption
                    cases hi : isB (S j)
                    · go_wp2_with (first | (go_at_call 15; (with_reducible refine (num' _ _).mono ?_); rintro e v1 ⟨rfl, rfl⟩))
                      go_roundw
                      case rel => exact ⟨j + 1, ⟨by omega, by omega⟩, by go_num, HH⟩
                      case measure => simp [intOf]; omega
                    · have hmo := may_one hi
                      have hov := one_over (S j) (R i).lo (R i).hi (R i).top
                      have hsi := size_of hi
                      cases hx : holdsB (R i).lo (R i).hi (R i).top (S j)
                      · have hu : withinB (S j) (S j ++ ⟨#[0]⟩) false (R i).lo (R i).hi (R i).top = false := by
                          cases hu : withinB (S j) (S j ++ ⟨#[0]⟩) false (R i).lo (R i).hi (R i).top
                          · rfl
                          · exact (Bool.false_ne_true (hx.symm.trans (one_in hu))).elim
                        cases hy : holdsB (R (i + 1)).lo (R (i + 1)).hi (R (i + 1)).top (S j) <;> cases vin
                        all_goals as_aux_lemma =>
                          go_wp2_with (first | (go_at_call 15; (with_reducible refine (num' _ _).mono ?_); rintro e v1 ⟨rfl, rfl⟩))
                          refine (One_yes _ hi _).mono ?_
                          rintro e wK ⟨rfl, hb⟩
                          have HK : BelowC wF wK := bc_step (by repeat (with_reducible first | assumption | apply bc_alloc | apply bc_drewN | apply bc_drew)) hb
                          clear hb
                          go_wp2_with fail
                          refine (In _ _ _ _ _ _ _).mono ?_
                          rintro e wL ⟨rfl, hb⟩
                          have HL : BelowC wF wL := bc_step (by repeat (with_reducible first | assumption | apply bc_alloc | apply bc_drewN | apply bc_drew)) hb
                          have hsL := hb.size
                          (try simp only [World.size_alloc, World.size_setCell, World.size_drew, World.heap_drewN] at hsL)
                          have hO : Box3 wL wK.heap.size ⟨S j, S j ++ ⟨#[0]⟩, false⟩ := ⟨by omega, (Below.cell hb (p := ⟨wK.heap.size, 0, none⟩) (by simp; try omega)).trans (by go_simp), (Below.cell hb (p := ⟨wK.heap.size, 1, none⟩) (by simp; try omega)).trans (by go_simp), (Below.cell hb (p := ⟨wK.heap.size, 2, none⟩) (by simp; try omega)).trans (by go_simp)⟩
                          obtain ⟨_, o0, o1, o2⟩ := hO
                          clear hb
                          go_wp2_with (first | (go_at_call 28; (with_reducible refine (Over _ _ _ _ _ _ _).mono ?_); rintro e v1 ⟨rfl, hb⟩; have HX : BelowC wF v1 := bc_step (by repeat (with_reducible first | assumption | apply bc_alloc | apply bc_drewN | apply bc_drew)) hb; clear hb) | (go_at_call 15; (with_reducible refine (num' _ _).mono ?_); rintro e v1 ⟨rfl, rfl⟩))
                          go_roundw
                          case rel => exact ⟨j + 1, ⟨by omega, by omega⟩, by go_num, HX⟩
                          case measure => simp [intOf]; omega
                      · cases hy : holdsB (R (i + 1)).lo (R (i + 1)).hi (R (i + 1)).top (S j)
                        · cases vin
                          · cases hu : withinB (S j) (S j ++ ⟨#[0]⟩) false (R i).lo (R i).hi (R i).top
                            all_goals as_aux_lemma =>
                              go_wp2_with (first | (go_at_call 15; (with_reducible refine (num' _ _).mono ?_); rintro e v1 ⟨rfl, rfl⟩))
                              refine (One_yes _ hi _).mono ?_
                              rintro e wK ⟨rfl, hb⟩
                              have HK : BelowC wF wK := bc_step (by repeat (with_reducible first | assumption | apply bc_alloc | apply bc_drewN | apply bc_drew)) hb
                              clear hb
                              go_wp2_with fail
                              refine (In _ _ _ _ _ _ _).mono ?_
                              rintro e wL ⟨rfl, hb⟩
                              have HL : BelowC wF wL := bc_step (by repeat (with_reducible first | assumption | apply bc_alloc | apply bc_drewN | apply bc_drew)) hb
                              have hsL := hb.size
                              (try simp only [World.size_alloc, World.size_setCell, World.size_drew, World.heap_drewN] at hsL)
                              have hO : Box3 wL wK.heap.size ⟨S j, S j ++ ⟨#[0]⟩, false⟩ := ⟨by omega, (Below.cell hb (p := ⟨wK.heap.size, 0, none⟩) (by simp; try omega)).trans (by go_simp), (Below.cell hb (p := ⟨wK.heap.size, 1, none⟩) (by simp; try omega)).trans (by go_simp), (Below.cell hb (p := ⟨wK.heap.size, 2, none⟩) (by simp; try omega)).trans (by go_simp)⟩
                              obtain ⟨_, o0, o1, o2⟩ := hO
                              clear hb
                              go_wp2_with (first | (go_at_call 28; (with_reducible refine (Over _ _ _ _ _ _ _).mono ?_); rintro e v1 ⟨rfl, hb⟩; have HX : BelowC wF v1 := bc_step (by repeat (with_reducible first | assumption | apply bc_alloc | apply bc_drewN | apply bc_drew)) hb; clear hb) | (go_at_call 15; (with_reducible refine (num' _ _).mono ?_); rintro e v1 ⟨rfl, rfl⟩))
                              go_roundw
                              case rel => exact ⟨j + 1, ⟨by omega, by omega⟩, by go_num, HX⟩
                              case measure => simp [intOf]; omega
                          · exact (Bool.false_ne_true (hy.symm.trans (within_holds Hin.out hx))).elim
                        · cases vov
                          · exact (Bool.false_ne_true (Hov.out.symm.trans (holds_over hx hy))).elim
                          · cases vin <;> cases hu : withinB (S j) (S j ++ ⟨#[0]⟩) false (R i).lo (R i).hi (R i).top
                            all_goals as_aux_lemma =>
                              go_wp2_with (first | (go_at_call 15; (with_reducible refine (num' _ _).mono ?_); rintro e v1 ⟨rfl, rfl⟩))
                              refine (One_yes _ hi _).mono ?_
                              rintro e wK ⟨rfl, hb⟩
                              have HK : BelowC wF wK := bc_step (by repeat (with_reducible first | assumption | apply bc_alloc | apply bc_drewN | apply bc_drew)) hb
                              clear hb
                              go_wp2_with fail
                              refine (In _ _ _ _ _ _ _).mono ?_
                              rintro e wL ⟨rfl, hb⟩
                              have HL : BelowC wF wL := bc_step (by repeat (with_reducible first | assumption | apply bc_alloc | apply bc_drewN | apply bc_drew)) hb
                              have hsL := hb.size
                              (try simp only [World.size_alloc, World.size_setCell, World.size_drew, World.heap_drewN] at hsL)
                              have hO : Box3 wL wK.heap.size ⟨S j, S j ++ ⟨#[0]⟩, false⟩ := ⟨by omega, (Below.cell hb (p := ⟨wK.heap.size, 0, none⟩) (by simp; try omega)).trans (by go_simp), (Below.cell hb (p := ⟨wK.heap.size, 1, none⟩) (by simp; try omega)).trans (by go_simp), (Below.cell hb (p := ⟨wK.heap.size, 2, none⟩) (by simp; try omega)).trans (by go_simp)⟩
                              obtain ⟨_, o0, o1, o2⟩ := hO
                              clear hb
                              go_wp2_with (first | (go_at_call 28; (with_reducible refine (Over _ _ _ _ _ _ _).mono ?_); rintro e v1 ⟨rfl, hb⟩; have HX : BelowC wF v1 := bc_step (by repeat (with_reducible first | assumption | apply bc_alloc | apply bc_drewN | apply bc_drew)) hb; clear hb) | (go_at_call 15; (with_reducible refine (num' _ _).mono ?_); rintro e v1 ⟨rfl, rfl⟩))
                              go_roundw
                              case rel => exact ⟨j + 1, ⟨by omega, by omega⟩, by go_num, HX⟩
                              case measure => simp [intOf]; omega
                  · go_wp2_with fail
                    go_roundw
                    case rel => exact ⟨i + 1, ⟨by omega, by omega⟩, by go_num, bc_trans HBF HG⟩
                    case measure => simp [intOf]; omega
                · go_wp2_with fail
                  go_roundw
                  case rel => exact ⟨i + 1, ⟨by omega, by omega⟩, by go_num, bc_trans HBF HG⟩
                  case measure => simp [intOf]; omega
        · go_wp2_with (first | (go_at_call 27; (with_reducible refine (wakes _).mono ?_); rintro e v1 ⟨rfl, hb⟩; have HX : BelowC wB v1 := bc_step (by repeat (with_reducible first | assumption | apply bc_alloc | apply bc_drewN | apply bc_drew)) hb; clear hb))
          go_returns
          exact ⟨rfl, below_step HW.out HX⟩
      · go_wp2_with (first | (go_at_call 27; (with_reducible refine (wakes _).mono ?_); rintro e v1 ⟨rfl, hb⟩; have HX : BelowC wB v1 := bc_step (by repeat (with_reducible first | assumption | apply bc_alloc | apply bc_drewN | apply bc_drew)) hb; clear hb))
        go_returns
        exact ⟨rfl, below_step HW.out HX⟩
  · go_wp2_with fail
    go_returns
    exact ⟨rfl, HW.out⟩
end Go.Proofs.Ytjlaphnpajeoeaa.K
