/- Contracts of package key's functions: what each comes to. -/
import Derived.Test.YtjlaphnpajeoeaaProg
import Derived.Below
import Derived.WalkKit
import Derived.KernelRfl
import Derived.RowKit
import Derived.RowKit3
import Derived.Tactics
import Derived.Deep.QuietTactic
import Derived.BigQuiet
import Derived.OwnWalk
import Derived.Outline
import Derived.Handy
import Derived.Lib.Strings
import Derived.Test.YtjlaphnpajeoeaaS
namespace Go.Proofs.Ytjlaphnpajeoeaa.K
open Go.RowKit Go.Proofs.YtjlaphnpajeoeaaS
set_option linter.unusedSimpArgs false
set_option linter.unusedVariables false
attribute [local go_sem] s_leq s_gtr s_geq s_maxr s_minr

/-- Where only reads and new memory happened: the old world is as it was. -/
def Ret (v : Value) (w : World) (e : Ending) (w' : World) : Prop := e = .returned v ∧ Below w.heap.size w w'
theorem hid {p : Prop} (h : p) : Hid p := h
theorem bcell {W w1 : World} (hb : Below W.heap.size W w1) : (∀ b o, b < W.heap.size → w1.cell? ⟨b, o, none⟩ = W.cell? ⟨b, o, none⟩) ∧ (∀ b o, b < W.heap.size → w1.frozen? ⟨b, o, none⟩ = W.frozen? ⟨b, o, none⟩) ∧ W.heap.size ≤ w1.heap.size :=
  ⟨fun b o h => hb.cell (p := ⟨b, o, none⟩) h, fun b o h => hb.frozen (p := ⟨b, o, none⟩) h, hb.size⟩
theorem below_step {w W w1 : World} (h : Below w.heap.size w W) (hb : Below W.heap.size W w1) : Below w.heap.size w w1 := h.trans (hb.mono h.size)
theorem below_alloc {w a : World} (h : Below w.heap.size w a) (o : Obj) : Below w.heap.size w (a.alloc o) := h.alloc h.size o
theorem below_set {w W : World} {g j : Nat} {v : Value} (h : Below w.heap.size w W) (hg : w.heap.size ≤ g) : Below w.heap.size w (W.setCell ⟨g, j, none⟩ v) := h.setCell hg _
theorem below_drewN {w a : World} (h : Below w.heap.size w a) (n : Nat) : Below w.heap.size w (a.drewN n) := ⟨h.os, h.tape, h.output, h.size, h.block⟩
theorem below_drew {w a : World} (h : Below w.heap.size w a) : Below w.heap.size w a.drew := h.drew

def lt (a b : ByteArray) : Bool := Op.bytesLess a.toList b.toList
def mayB (lo hi : ByteArray) (top : Bool) : Bool := if 13 < lo.size ∨ 13 < hi.size then false else if top then hi.toList.isEmpty else !lt hi lo
def isB (s : ByteArray) : Bool := !s.toList.isEmpty && decide ((s.size : Int) ≤ 12)
def fitsB (s : ByteArray) : Bool := decide ((s.size : Int) ≤ 20)
def holdsB (lo hi : ByteArray) (top : Bool) (k : ByteArray) : Bool := !lt k lo && (top || lt k hi)
def emptyB (lo hi : ByteArray) (top : Bool) : Bool := !(top || lt lo hi)
def withinB (lo hi : ByteArray) (top : Bool) (lo' hi' : ByteArray) (top' : Bool) : Bool := !lt lo lo' && (top' || !top && !lt hi' hi)
def meetHi (lo hi : ByteArray) (top : Bool) (lo' hi' : ByteArray) (top' : Bool) : ByteArray :=
  if top && top' then ⟨#[]⟩ else smx (if top then hi' else if top' then hi else smn hi hi') (smx lo lo')
def sharesB (lo hi : ByteArray) (top : Bool) (lo' hi' : ByteArray) (top' : Bool) : Bool := !emptyB (smx lo lo') (meetHi lo hi top lo' hi' top') (top && top')
abbrev rng (lo hi : ByteArray) (top : Bool) : Value := .agg #[.string lo, .string hi, .bool top]
abbrev rng0 : Value := .agg #[.string ⟨#[]⟩, .string ⟨#[]⟩, .bool false]
def oneV (s : ByteArray) : Value := if isB s then rng s (s ++ ⟨#[0]⟩) false else rng0
def noneB (lo hi : ByteArray) (top : Bool) : Bool := !top && lo.toList == hi.toList
def overB (lo hi : ByteArray) (top : Bool) (lo' hi' : ByteArray) (top' : Bool) : Bool := (top || lt (smx lo lo') hi) && (top' || lt (smx lo lo') hi')
theorem size_of {s : ByteArray} (h : isB s = true) : s.size ≤ 12 := by simp [isB] at h; omega
theorem empty_size (s : ByteArray) : s.toList.isEmpty = decide ((s.size : Int) < 1) := by
  have e : s.toList.length = s.size := by rw [Lib.toList_data]; simp
  cases h : s.toList <;> rw [h] at e <;> simp at e ⊢ <;> omega
def bothV (lo hi : ByteArray) (top : Bool) (lo' hi' : ByteArray) (top' : Bool) : Value := if mayB lo hi top && mayB lo' hi' top' then rng (smx lo lo') (meetHi lo hi top lo' hi' top') (top && top') else rng0
def oks (b : Bool) : Int := if b then 0 else 1
set_option maxHeartbeats 1000000 in
theorem May (lo hi : ByteArray) (top : Bool) (w : World) :
    Calls Try.prog 42 #[rng lo hi top] w (Ret (.bool (mayB lo hi top)) w) := by
  have HB := hid (Below.refl w.heap.size w)
  go_enter Try.func42, Try.ntmps42
  go_wp2
  all_goals
    go_returns
    refine ⟨?_, ?_⟩
    · simp [mayB, lt, *]
      try omega
    · repeat (first | exact HB.out | exact Below.refl _ _ | apply below_alloc | apply below_drewN | apply below_drew | refine below_set ?_ (by omega))

set_option maxHeartbeats 1000000 in
theorem Is (s : ByteArray) (w : World) :
    Calls Try.prog 37 #[.string s] w (Ret (.bool (isB s)) w) := by
  have HB := hid (Below.refl w.heap.size w)
  go_enter Try.func37, Try.ntmps37
  go_wp2
  all_goals
    go_returns
    refine ⟨?_, ?_⟩
    · simp [isB, *]
      try omega
    · repeat (first | exact HB.out | exact Below.refl _ _ | apply below_alloc | apply below_drewN | apply below_drew | refine below_set ?_ (by omega))

set_option maxHeartbeats 1000000 in
theorem Fits (s : ByteArray) (w : World) :
    Calls Try.prog 41 #[.string s] w (Ret (.bool (fitsB s)) w) := by
  have HB := hid (Below.refl w.heap.size w)
  go_enter Try.func41, Try.ntmps41
  go_wp2
  all_goals
    go_returns
    refine ⟨?_, ?_⟩
    · simp [fitsB, *]
      try omega
    · repeat (first | exact HB.out | exact Below.refl _ _ | apply below_alloc | apply below_drewN | apply below_drew | refine below_set ?_ (by omega))

set_option maxHeartbeats 1000000 in
theorem told (b : Bool) (w : World) :
    Calls Try.prog 40 #[.bool b] w (Ret (.int .i64 (oks b)) w) := by
  cases h0 : b
  all_goals
    have HB := hid (Below.refl w.heap.size w)
    go_enter Try.func40, Try.ntmps40
    go_wp2
    all_goals
      go_returns
      refine ⟨?_, ?_⟩
      · simp [oks, *]
        try omega
      · repeat (first | exact HB.out | exact Below.refl _ _ | apply below_alloc | apply below_drewN | apply below_drew | refine below_set ?_ (by omega))

set_option maxHeartbeats 1000000 in
theorem Key (s : ByteArray) (w : World) :
    Calls Try.prog 16 #[.string s] w (Ret (.int .i64 (oks (isB s))) w) := by
  have HB := hid (Below.refl w.heap.size w)
  go_enter Try.func16, Try.ntmps16
  go_wp2_with (first | (go_at_call 37; (with_reducible refine (Is _  _).mono ?_); rintro e w1 ⟨rfl, hb⟩; have n_ : Hid (Below w.heap.size w w1) := hid (below_step (by repeat (first | exact HB.out | exact Below.refl _ _ | apply below_alloc | apply below_drewN | apply below_drew | refine below_set ?_ (by omega))) hb); clear HB; have HB := n_; clear n_; obtain ⟨hc, hf, -⟩ := bcell hb; clear hb) | (go_at_call 40; (with_reducible refine (told _  _).mono ?_); rintro e w1 ⟨rfl, hb⟩; have n_ : Hid (Below w.heap.size w w1) := hid (below_step (by repeat (first | exact HB.out | exact Below.refl _ _ | apply below_alloc | apply below_drewN | apply below_drew | refine below_set ?_ (by omega))) hb); clear HB; have HB := n_; clear n_; obtain ⟨hc, hf, -⟩ := bcell hb; clear hb))
  all_goals
    go_returns
    refine ⟨?_, ?_⟩
    · simp [*]
      try omega
    · repeat (first | exact HB.out | exact Below.refl _ _ | apply below_alloc | apply below_drewN | apply below_drew | refine below_set ?_ (by omega))

set_option maxHeartbeats 1000000 in
theorem Value_ (s : ByteArray) (w : World) :
    Calls Try.prog 17 #[.string s] w (Ret (.int .i64 (oks (fitsB s))) w) := by
  have HB := hid (Below.refl w.heap.size w)
  go_enter Try.func17, Try.ntmps17
  go_wp2_with (first | (go_at_call 41; (with_reducible refine (Fits _  _).mono ?_); rintro e w1 ⟨rfl, hb⟩; have n_ : Hid (Below w.heap.size w w1) := hid (below_step (by repeat (first | exact HB.out | exact Below.refl _ _ | apply below_alloc | apply below_drewN | apply below_drew | refine below_set ?_ (by omega))) hb); clear HB; have HB := n_; clear n_; obtain ⟨hc, hf, -⟩ := bcell hb; clear hb) | (go_at_call 40; (with_reducible refine (told _  _).mono ?_); rintro e w1 ⟨rfl, hb⟩; have n_ : Hid (Below w.heap.size w w1) := hid (below_step (by repeat (first | exact HB.out | exact Below.refl _ _ | apply below_alloc | apply below_drewN | apply below_drew | refine below_set ?_ (by omega))) hb); clear HB; have HB := n_; clear n_; obtain ⟨hc, hf, -⟩ := bcell hb; clear hb))
  all_goals
    go_returns
    refine ⟨?_, ?_⟩
    · simp [*]
      try omega
    · repeat (first | exact HB.out | exact Below.refl _ _ | apply below_alloc | apply below_drewN | apply below_drew | refine below_set ?_ (by omega))

set_option maxHeartbeats 1000000 in
theorem Check (lo hi : ByteArray) (top : Bool) (w : World) :
    Calls Try.prog 23 #[rng lo hi top] w (Ret (.int .i64 (oks (mayB lo hi top))) w) := by
  have HB := hid (Below.refl w.heap.size w)
  go_enter Try.func23, Try.ntmps23
  go_wp2_with (first | (go_at_call 42; (with_reducible refine (May _ _ _  _).mono ?_); rintro e w1 ⟨rfl, hb⟩; have n_ : Hid (Below w.heap.size w w1) := hid (below_step (by repeat (first | exact HB.out | exact Below.refl _ _ | apply below_alloc | apply below_drewN | apply below_drew | refine below_set ?_ (by omega))) hb); clear HB; have HB := n_; clear n_; obtain ⟨hc, hf, -⟩ := bcell hb; have hz0_ : w.heap.size < w1.heap.size := (by have := hb.size; (try simp only [World.size_alloc, World.size_setCell, World.size_drew, World.heap_drewN] at this); omega); clear hb) | (go_at_call 40; (with_reducible refine (told _  _).mono ?_); rintro e w1 ⟨rfl, hb⟩; have n_ : Hid (Below w.heap.size w w1) := hid (below_step (by repeat (first | exact HB.out | exact Below.refl _ _ | apply below_alloc | apply below_drewN | apply below_drew | refine below_set ?_ (by omega))) hb); clear HB; have HB := n_; clear n_; obtain ⟨hc, hf, -⟩ := bcell hb; have hz0_ : w.heap.size < w1.heap.size := (by have := hb.size; (try simp only [World.size_alloc, World.size_setCell, World.size_drew, World.heap_drewN] at this); omega); clear hb))
  all_goals
    go_returns
    refine ⟨?_, ?_⟩
    · simp [*]
      try omega
    · repeat (first | exact HB.out | exact Below.refl _ _ | apply below_alloc | apply below_drewN | apply below_drew | refine below_set ?_ (by omega))

set_option maxHeartbeats 1000000 in
theorem below (s : ByteArray) (lo hi : ByteArray) (top : Bool) (w : World) :
    Calls Try.prog 48 #[.string s, rng lo hi top] w (Ret (.bool (top || lt s hi)) w) := by
  cases h0 : top
  all_goals
    have HB := hid (Below.refl w.heap.size w)
    go_enter Try.func48, Try.ntmps48
    go_wp2
    all_goals
      go_returns
      refine ⟨?_, ?_⟩
      · simp [lt, *]
        try omega
      · repeat (first | exact HB.out | exact Below.refl _ _ | apply below_alloc | apply below_drewN | apply below_drew | refine below_set ?_ (by omega))

set_option maxHeartbeats 1000000 in
theorem Holds (lo hi : ByteArray) (top : Bool) (k : ByteArray) (w : World) :
    Calls Try.prog 43 #[rng lo hi top, .string k] w (Ret (.bool (holdsB lo hi top k)) w) := by
  cases h0 : lt k lo
  all_goals
    try simp only [lt] at h0
    have HB := hid (Below.refl w.heap.size w)
    go_enter Try.func43, Try.ntmps43
    go_wp2_with (first | (go_at_call 48; (with_reducible refine (below _ _ _ _  _).mono ?_); rintro e w1 ⟨rfl, hb⟩; have n_ : Hid (Below w.heap.size w w1) := hid (below_step (by repeat (first | exact HB.out | exact Below.refl _ _ | apply below_alloc | apply below_drewN | apply below_drew | refine below_set ?_ (by omega))) hb); clear HB; have HB := n_; clear n_; obtain ⟨hc, hf, -⟩ := bcell hb; have hz0_ : w.heap.size < w1.heap.size := (by have := hb.size; (try simp only [World.size_alloc, World.size_setCell, World.size_drew, World.heap_drewN] at this); omega); clear hb))
    all_goals
      go_returns
      refine ⟨?_, ?_⟩
      · simp [holdsB, lt, *]
        try omega
      · repeat (first | exact HB.out | exact Below.refl _ _ | apply below_alloc | apply below_drewN | apply below_drew | refine below_set ?_ (by omega))

set_option maxHeartbeats 1000000 in
theorem Empty (lo hi : ByteArray) (top : Bool) (w : World) :
    Calls Try.prog 44 #[rng lo hi top] w (Ret (.bool (emptyB lo hi top)) w) := by
  have HB := hid (Below.refl w.heap.size w)
  go_enter Try.func44, Try.ntmps44
  go_wp2_with (first | (go_at_call 48; (with_reducible refine (below _ _ _ _  _).mono ?_); rintro e w1 ⟨rfl, hb⟩; have n_ : Hid (Below w.heap.size w w1) := hid (below_step (by repeat (first | exact HB.out | exact Below.refl _ _ | apply below_alloc | apply below_drewN | apply below_drew | refine below_set ?_ (by omega))) hb); clear HB; have HB := n_; clear n_; obtain ⟨hc, hf, -⟩ := bcell hb; have hz0_ : w.heap.size < w1.heap.size := (by have := hb.size; (try simp only [World.size_alloc, World.size_setCell, World.size_drew, World.heap_drewN] at this); omega); clear hb))
  all_goals
    go_returns
    refine ⟨?_, ?_⟩
    · simp [emptyB, *]
      try omega
    · repeat (first | exact HB.out | exact Below.refl _ _ | apply below_alloc | apply below_drewN | apply below_drew | refine below_set ?_ (by omega))

set_option maxHeartbeats 1000000 in
theorem Has (lo hi : ByteArray) (top : Bool) (k : ByteArray) (w : World) :
    Calls Try.prog 19 #[rng lo hi top, .string k] w (Ret (.tuple #[.bool (mayB lo hi top && (isB k && holdsB lo hi top k)), .int .i64 (oks (mayB lo hi top && isB k))]) w) := by
  cases h0 : mayB lo hi top <;> cases h1 : isB k
  all_goals
    have HB := hid (Below.refl w.heap.size w)
    go_enter Try.func19, Try.ntmps19
    go_wp2_with (first | (go_at_call 42; (with_reducible refine (May _ _ _  _).mono ?_); rintro e w1 ⟨rfl, hb⟩; have n_ : Hid (Below w.heap.size w w1) := hid (below_step (by repeat (first | exact HB.out | exact Below.refl _ _ | apply below_alloc | apply below_drewN | apply below_drew | refine below_set ?_ (by omega))) hb); clear HB; have HB := n_; clear n_; obtain ⟨hc, hf, -⟩ := bcell hb; have hz0_ : w.heap.size < w1.heap.size := (by have := hb.size; (try simp only [World.size_alloc, World.size_setCell, World.size_drew, World.heap_drewN] at this); omega); clear hb) | (go_at_call 37; (with_reducible refine (Is _  _).mono ?_); rintro e w1 ⟨rfl, hb⟩; have n_ : Hid (Below w.heap.size w w1) := hid (below_step (by repeat (first | exact HB.out | exact Below.refl _ _ | apply below_alloc | apply below_drewN | apply below_drew | refine below_set ?_ (by omega))) hb); clear HB; have HB := n_; clear n_; obtain ⟨hc, hf, -⟩ := bcell hb; have hz0_ : w.heap.size < w1.heap.size := (by have := hb.size; (try simp only [World.size_alloc, World.size_setCell, World.size_drew, World.heap_drewN] at this); omega); clear hb) | (go_at_call 43; (with_reducible refine (Holds _ _ _ _  _).mono ?_); rintro e w1 ⟨rfl, hb⟩; have n_ : Hid (Below w.heap.size w w1) := hid (below_step (by repeat (first | exact HB.out | exact Below.refl _ _ | apply below_alloc | apply below_drewN | apply below_drew | refine below_set ?_ (by omega))) hb); clear HB; have HB := n_; clear n_; obtain ⟨hc, hf, -⟩ := bcell hb; have hz0_ : w.heap.size < w1.heap.size := (by have := hb.size; (try simp only [World.size_alloc, World.size_setCell, World.size_drew, World.heap_drewN] at this); omega); clear hb))
    all_goals
      go_returns
      refine ⟨?_, ?_⟩
      · simp [oks, *]
        try omega
      · repeat (first | exact HB.out | exact Below.refl _ _ | apply below_alloc | apply below_drewN | apply below_drew | refine below_set ?_ (by omega))

set_option maxHeartbeats 1000000 in
theorem None_ (lo hi : ByteArray) (top : Bool) (w : World) :
    Calls Try.prog 22 #[rng lo hi top] w (Ret (.tuple #[.bool (mayB lo hi top && emptyB lo hi top), .int .i64 (oks (mayB lo hi top))]) w) := by
  cases h0 : mayB lo hi top
  all_goals
    have HB := hid (Below.refl w.heap.size w)
    go_enter Try.func22, Try.ntmps22
    go_wp2_with (first | (go_at_call 42; (with_reducible refine (May _ _ _  _).mono ?_); rintro e w1 ⟨rfl, hb⟩; have n_ : Hid (Below w.heap.size w w1) := hid (below_step (by repeat (first | exact HB.out | exact Below.refl _ _ | apply below_alloc | apply below_drewN | apply below_drew | refine below_set ?_ (by omega))) hb); clear HB; have HB := n_; clear n_; obtain ⟨hc, hf, -⟩ := bcell hb; have hz0_ : w.heap.size < w1.heap.size := (by have := hb.size; (try simp only [World.size_alloc, World.size_setCell, World.size_drew, World.heap_drewN] at this); omega); clear hb) | (go_at_call 44; (with_reducible refine (Empty _ _ _  _).mono ?_); rintro e w1 ⟨rfl, hb⟩; have n_ : Hid (Below w.heap.size w w1) := hid (below_step (by repeat (first | exact HB.out | exact Below.refl _ _ | apply below_alloc | apply below_drewN | apply below_drew | refine below_set ?_ (by omega))) hb); clear HB; have HB := n_; clear n_; obtain ⟨hc, hf, -⟩ := bcell hb; have hz0_ : w.heap.size < w1.heap.size := (by have := hb.size; (try simp only [World.size_alloc, World.size_setCell, World.size_drew, World.heap_drewN] at this); omega); clear hb))
    all_goals
      go_returns
      refine ⟨?_, ?_⟩
      · simp [oks, *]
        try omega
      · repeat (first | exact HB.out | exact Below.refl _ _ | apply below_alloc | apply below_drewN | apply below_drew | refine below_set ?_ (by omega))

set_option maxHeartbeats 1000000 in
theorem Meet (lo hi : ByteArray) (top : Bool) (lo' hi' : ByteArray) (top' : Bool) (w : World) :
    Calls Try.prog 47 #[rng lo hi top, rng lo' hi' top'] w (Ret (rng (smx lo lo') (meetHi lo hi top lo' hi' top') (top && top')) w) := by
  cases h0 : top <;> cases h1 : top'
  all_goals
    have HB := hid (Below.refl w.heap.size w)
    go_enter Try.func47, Try.ntmps47
    go_wp2
    all_goals
      go_returns
      refine ⟨?_, ?_⟩
      · simp [meetHi, *]
        try omega
      · repeat (first | exact HB.out | exact Below.refl _ _ | apply below_alloc | apply below_drewN | apply below_drew | refine below_set ?_ (by omega))

set_option maxHeartbeats 1000000 in
theorem Shares (lo hi : ByteArray) (top : Bool) (lo' hi' : ByteArray) (top' : Bool) (w : World) :
    Calls Try.prog 45 #[rng lo hi top, rng lo' hi' top'] w (Ret (.bool (sharesB lo hi top lo' hi' top')) w) := by
  have HB := hid (Below.refl w.heap.size w)
  go_enter Try.func45, Try.ntmps45
  go_wp2_with (first | (go_at_call 47; (with_reducible refine (Meet _ _ _ _ _ _  _).mono ?_); rintro e w1 ⟨rfl, hb⟩; have n_ : Hid (Below w.heap.size w w1) := hid (below_step (by repeat (first | exact HB.out | exact Below.refl _ _ | apply below_alloc | apply below_drewN | apply below_drew | refine below_set ?_ (by omega))) hb); clear HB; have HB := n_; clear n_; obtain ⟨hc, hf, -⟩ := bcell hb; have hz0_ : w.heap.size < w1.heap.size := (by have := hb.size; (try simp only [World.size_alloc, World.size_setCell, World.size_drew, World.heap_drewN] at this); omega); have hz1_ : w.heap.size + 1 < w1.heap.size := (by have := hb.size; (try simp only [World.size_alloc, World.size_setCell, World.size_drew, World.heap_drewN] at this); omega); clear hb) | (go_at_call 44; (with_reducible refine (Empty _ _ _  _).mono ?_); rintro e w1 ⟨rfl, hb⟩; have n_ : Hid (Below w.heap.size w w1) := hid (below_step (by repeat (first | exact HB.out | exact Below.refl _ _ | apply below_alloc | apply below_drewN | apply below_drew | refine below_set ?_ (by omega))) hb); clear HB; have HB := n_; clear n_; obtain ⟨hc, hf, -⟩ := bcell hb; have hz0_ : w.heap.size < w1.heap.size := (by have := hb.size; (try simp only [World.size_alloc, World.size_setCell, World.size_drew, World.heap_drewN] at this); omega); have hz1_ : w.heap.size + 1 < w1.heap.size := (by have := hb.size; (try simp only [World.size_alloc, World.size_setCell, World.size_drew, World.heap_drewN] at this); omega); clear hb))
  all_goals
    go_returns
    refine ⟨?_, ?_⟩
    · simp [sharesB, *]
      try omega
    · repeat (first | exact HB.out | exact Below.refl _ _ | apply below_alloc | apply below_drewN | apply below_drew | refine below_set ?_ (by omega))

set_option maxHeartbeats 1000000 in
theorem Over (lo hi : ByteArray) (top : Bool) (lo' hi' : ByteArray) (top' : Bool) (w : World) :
    Calls Try.prog 28 #[rng lo hi top, rng lo' hi' top'] w (Ret (.tuple #[.bool (mayB lo hi top && mayB lo' hi' top' && sharesB lo hi top lo' hi' top'), .int .i64 (oks (mayB lo hi top && mayB lo' hi' top'))]) w) := by
  cases h0 : mayB lo hi top <;> cases h1 : mayB lo' hi' top'
  all_goals
    have HB := hid (Below.refl w.heap.size w)
    go_enter Try.func28, Try.ntmps28
    go_wp2_with (first | (go_at_call 42; (with_reducible refine (May _ _ _  _).mono ?_); rintro e w1 ⟨rfl, hb⟩; have n_ : Hid (Below w.heap.size w w1) := hid (below_step (by repeat (first | exact HB.out | exact Below.refl _ _ | apply below_alloc | apply below_drewN | apply below_drew | refine below_set ?_ (by omega))) hb); clear HB; have HB := n_; clear n_; obtain ⟨hc, hf, -⟩ := bcell hb; have hz0_ : w.heap.size < w1.heap.size := (by have := hb.size; (try simp only [World.size_alloc, World.size_setCell, World.size_drew, World.heap_drewN] at this); omega); have hz1_ : w.heap.size + 1 < w1.heap.size := (by have := hb.size; (try simp only [World.size_alloc, World.size_setCell, World.size_drew, World.heap_drewN] at this); omega); clear hb) | (go_at_call 45; (with_reducible refine (Shares _ _ _ _ _ _  _).mono ?_); rintro e w1 ⟨rfl, hb⟩; have n_ : Hid (Below w.heap.size w w1) := hid (below_step (by repeat (first | exact HB.out | exact Below.refl _ _ | apply below_alloc | apply below_drewN | apply below_drew | refine below_set ?_ (by omega))) hb); clear HB; have HB := n_; clear n_; obtain ⟨hc, hf, -⟩ := bcell hb; have hz0_ : w.heap.size < w1.heap.size := (by have := hb.size; (try simp only [World.size_alloc, World.size_setCell, World.size_drew, World.heap_drewN] at this); omega); have hz1_ : w.heap.size + 1 < w1.heap.size := (by have := hb.size; (try simp only [World.size_alloc, World.size_setCell, World.size_drew, World.heap_drewN] at this); omega); clear hb))
    all_goals
      go_returns
      refine ⟨?_, ?_⟩
      · simp [oks, *]
        try omega
      · repeat (first | exact HB.out | exact Below.refl _ _ | apply below_alloc | apply below_drewN | apply below_drew | refine below_set ?_ (by omega))

set_option maxHeartbeats 1000000 in
theorem Within (lo hi : ByteArray) (top : Bool) (lo' hi' : ByteArray) (top' : Bool) (w : World) :
    Calls Try.prog 46 #[rng lo hi top, rng lo' hi' top'] w (Ret (.bool (withinB lo hi top lo' hi' top')) w) := by
  cases h0 : lt lo lo' <;> cases h1 : top <;> cases h2 : top'
  all_goals
    try simp only [lt] at h0
    have HB := hid (Below.refl w.heap.size w)
    go_enter Try.func46, Try.ntmps46
    go_wp2
    all_goals
      go_returns
      refine ⟨?_, ?_⟩
      · simp [withinB, lt, *]
        try omega
      · repeat (first | exact HB.out | exact Below.refl _ _ | apply below_alloc | apply below_drewN | apply below_drew | refine below_set ?_ (by omega))

set_option maxHeartbeats 1000000 in
theorem In (lo hi : ByteArray) (top : Bool) (lo' hi' : ByteArray) (top' : Bool) (w : World) :
    Calls Try.prog 29 #[rng lo hi top, rng lo' hi' top'] w (Ret (.tuple #[.bool (mayB lo hi top && mayB lo' hi' top' && withinB lo hi top lo' hi' top'), .int .i64 (oks (mayB lo hi top && mayB lo' hi' top'))]) w) := by
  cases h0 : mayB lo hi top <;> cases h1 : mayB lo' hi' top'
  all_goals
    have HB := hid (Below.refl w.heap.size w)
    go_enter Try.func29, Try.ntmps29
    go_wp2_with (first | (go_at_call 42; (with_reducible refine (May _ _ _  _).mono ?_); rintro e w1 ⟨rfl, hb⟩; have n_ : Hid (Below w.heap.size w w1) := hid (below_step (by repeat (first | exact HB.out | exact Below.refl _ _ | apply below_alloc | apply below_drewN | apply below_drew | refine below_set ?_ (by omega))) hb); clear HB; have HB := n_; clear n_; obtain ⟨hc, hf, -⟩ := bcell hb; have hz0_ : w.heap.size < w1.heap.size := (by have := hb.size; (try simp only [World.size_alloc, World.size_setCell, World.size_drew, World.heap_drewN] at this); omega); have hz1_ : w.heap.size + 1 < w1.heap.size := (by have := hb.size; (try simp only [World.size_alloc, World.size_setCell, World.size_drew, World.heap_drewN] at this); omega); clear hb) | (go_at_call 46; (with_reducible refine (Within _ _ _ _ _ _  _).mono ?_); rintro e w1 ⟨rfl, hb⟩; have n_ : Hid (Below w.heap.size w w1) := hid (below_step (by repeat (first | exact HB.out | exact Below.refl _ _ | apply below_alloc | apply below_drewN | apply below_drew | refine below_set ?_ (by omega))) hb); clear HB; have HB := n_; clear n_; obtain ⟨hc, hf, -⟩ := bcell hb; have hz0_ : w.heap.size < w1.heap.size := (by have := hb.size; (try simp only [World.size_alloc, World.size_setCell, World.size_drew, World.heap_drewN] at this); omega); have hz1_ : w.heap.size + 1 < w1.heap.size := (by have := hb.size; (try simp only [World.size_alloc, World.size_setCell, World.size_drew, World.heap_drewN] at this); omega); clear hb))
    all_goals
      go_returns
      refine ⟨?_, ?_⟩
      · simp [oks, *]
        try omega
      · repeat (first | exact HB.out | exact Below.refl _ _ | apply below_alloc | apply below_drewN | apply below_drew | refine below_set ?_ (by omega))

set_option maxHeartbeats 1000000 in
theorem Both (lo hi : ByteArray) (top : Bool) (lo' hi' : ByteArray) (top' : Bool) (w : World) :
    Calls Try.prog 30 #[rng lo hi top, rng lo' hi' top'] w (Ret (.tuple #[bothV lo hi top lo' hi' top', .int .i64 (oks (mayB lo hi top && mayB lo' hi' top'))]) w) := by
  cases h0 : mayB lo hi top <;> cases h1 : mayB lo' hi' top'
  all_goals
    have HB := hid (Below.refl w.heap.size w)
    go_enter Try.func30, Try.ntmps30
    go_wp2_with (first | (go_at_call 42; (with_reducible refine (May _ _ _  _).mono ?_); rintro e w1 ⟨rfl, hb⟩; have n_ : Hid (Below w.heap.size w w1) := hid (below_step (by repeat (first | exact HB.out | exact Below.refl _ _ | apply below_alloc | apply below_drewN | apply below_drew | refine below_set ?_ (by omega))) hb); clear HB; have HB := n_; clear n_; obtain ⟨hc, hf, -⟩ := bcell hb; have hz0_ : w.heap.size < w1.heap.size := (by have := hb.size; (try simp only [World.size_alloc, World.size_setCell, World.size_drew, World.heap_drewN] at this); omega); have hz1_ : w.heap.size + 1 < w1.heap.size := (by have := hb.size; (try simp only [World.size_alloc, World.size_setCell, World.size_drew, World.heap_drewN] at this); omega); have hz2_ : w.heap.size + 1 + 1 < w1.heap.size := (by have := hb.size; (try simp only [World.size_alloc, World.size_setCell, World.size_drew, World.heap_drewN] at this); omega); clear hb) | (go_at_call 47; (with_reducible refine (Meet _ _ _ _ _ _  _).mono ?_); rintro e w1 ⟨rfl, hb⟩; have n_ : Hid (Below w.heap.size w w1) := hid (below_step (by repeat (first | exact HB.out | exact Below.refl _ _ | apply below_alloc | apply below_drewN | apply below_drew | refine below_set ?_ (by omega))) hb); clear HB; have HB := n_; clear n_; obtain ⟨hc, hf, -⟩ := bcell hb; have hz0_ : w.heap.size < w1.heap.size := (by have := hb.size; (try simp only [World.size_alloc, World.size_setCell, World.size_drew, World.heap_drewN] at this); omega); have hz1_ : w.heap.size + 1 < w1.heap.size := (by have := hb.size; (try simp only [World.size_alloc, World.size_setCell, World.size_drew, World.heap_drewN] at this); omega); have hz2_ : w.heap.size + 1 + 1 < w1.heap.size := (by have := hb.size; (try simp only [World.size_alloc, World.size_setCell, World.size_drew, World.heap_drewN] at this); omega); clear hb))
    all_goals
      refine bodyPost_ret (by simp [results, Try.results30, go_sem, *]; try rfl) rfl ?_
      refine ⟨?_, ?_⟩
      · simp [oks, bothV, *]
        try omega
      · repeat (first | exact HB.out | exact Below.refl _ _ | apply below_alloc | apply below_drewN | apply below_drew | refine below_set ?_ (by omega))

set_option maxHeartbeats 1000000 in
theorem Alone (s : ByteArray) (hs2 : s.size ≤ 12) (w : World) :
    Calls Try.prog 38 #[.string s] w (Ret (rng s (s ++ ⟨#[0]⟩) false) w) := by
  have HB := hid (Below.refl w.heap.size w)
  go_enter Try.func38, Try.ntmps38
  go_wp2
  all_goals
    go_returns
    refine ⟨?_, ?_⟩
    · simp [*]
      try omega
    · repeat (first | exact HB.out | exact Below.refl _ _ | apply below_alloc | apply below_drewN | apply below_drew | refine below_set ?_ (by omega))

set_option maxHeartbeats 1000000 in
theorem One (s : ByteArray) (w : World) :
    Calls Try.prog 12 #[.string s] w (Ret (.tuple #[oneV s, .int .i64 (oks (isB s))]) w) := by
  cases h0 : isB s
  all_goals
    try have hs2 := size_of h0
    have HB := hid (Below.refl w.heap.size w)
    go_enter Try.func12, Try.ntmps12
    go_wp2_with (first | (go_at_call 37; (with_reducible refine (Is _  _).mono ?_); rintro e w1 ⟨rfl, hb⟩; have n_ : Hid (Below w.heap.size w w1) := hid (below_step (by repeat (first | exact HB.out | exact Below.refl _ _ | apply below_alloc | apply below_drewN | apply below_drew | refine below_set ?_ (by omega))) hb); clear HB; have HB := n_; clear n_; obtain ⟨hc, hf, -⟩ := bcell hb; have hz0_ : w.heap.size < w1.heap.size := (by have := hb.size; (try simp only [World.size_alloc, World.size_setCell, World.size_drew, World.heap_drewN] at this); omega); clear hb) | (go_at_call 38; (with_reducible refine (Alone _ (by assumption) _).mono ?_); rintro e w1 ⟨rfl, hb⟩; have n_ : Hid (Below w.heap.size w w1) := hid (below_step (by repeat (first | exact HB.out | exact Below.refl _ _ | apply below_alloc | apply below_drewN | apply below_drew | refine below_set ?_ (by omega))) hb); clear HB; have HB := n_; clear n_; obtain ⟨hc, hf, -⟩ := bcell hb; have hz0_ : w.heap.size < w1.heap.size := (by have := hb.size; (try simp only [World.size_alloc, World.size_setCell, World.size_drew, World.heap_drewN] at this); omega); clear hb))
    all_goals
      refine bodyPost_ret (by simp [results, Try.results12, go_sem, *]; try rfl) rfl ?_
      refine ⟨?_, ?_⟩
      · simp [oks, oneV, *]
        try omega
      · repeat (first | exact HB.out | exact Below.refl _ _ | apply below_alloc | apply below_drewN | apply below_drew | refine below_set ?_ (by omega))

set_option maxHeartbeats 1000000 in
theorem rKey (s : ByteArray) (w : World) :
    Calls Try.prog 13 #[.string s] w (Ret (.bool (isB s)) w) := by
  have HB := hid (Below.refl w.heap.size w)
  go_enter Try.func13, Try.ntmps13
  go_wp2
  all_goals
    go_returns
    refine ⟨?_, ?_⟩
    · simp [isB, empty_size, *]
      try omega
    · repeat (first | exact HB.out | exact Below.refl _ _ | apply below_alloc | apply below_drewN | apply below_drew | refine below_set ?_ (by omega))

set_option maxHeartbeats 1000000 in
theorem rValue (s : ByteArray) (w : World) :
    Calls Try.prog 18 #[.string s] w (Ret (.bool (fitsB s)) w) := by
  have HB := hid (Below.refl w.heap.size w)
  go_enter Try.func18, Try.ntmps18
  go_wp2
  all_goals
    go_returns
    refine ⟨?_, ?_⟩
    · simp [fitsB, *]
      try omega
    · repeat (first | exact HB.out | exact Below.refl _ _ | apply below_alloc | apply below_drewN | apply below_drew | refine below_set ?_ (by omega))

set_option maxHeartbeats 1000000 in
theorem rRange (lo hi : ByteArray) (top : Bool) (w : World) :
    Calls Try.prog 20 #[rng lo hi top] w (Ret (.bool (mayB lo hi top)) w) := by
  have HB := hid (Below.refl w.heap.size w)
  go_enter Try.func20, Try.ntmps20
  go_wp2
  all_goals
    go_returns
    refine ⟨?_, ?_⟩
    · simp [mayB, lt, *]
      try omega
    · repeat (first | exact HB.out | exact Below.refl _ _ | apply below_alloc | apply below_drewN | apply below_drew | refine below_set ?_ (by omega))

set_option maxHeartbeats 1000000 in
theorem rOne (s : ByteArray) (hs2 : s.size ≤ 12) (w : World) :
    Calls Try.prog 14 #[.string s] w (Ret (rng s (s ++ ⟨#[0]⟩) false) w) := by
  have HB := hid (Below.refl w.heap.size w)
  go_enter Try.func14, Try.ntmps14
  go_wp2
  all_goals
    go_returns
    refine ⟨?_, ?_⟩
    · simp [*]
      try omega
    · repeat (first | exact HB.out | exact Below.refl _ _ | apply below_alloc | apply below_drewN | apply below_drew | refine below_set ?_ (by omega))

set_option maxHeartbeats 1000000 in
theorem rHas (lo hi : ByteArray) (top : Bool) (k : ByteArray) (w : World) :
    Calls Try.prog 21 #[rng lo hi top, .string k] w (Ret (.bool (holdsB lo hi top k)) w) := by
  cases h0 : lt k lo <;> cases h1 : top
  all_goals
    try simp only [lt] at h0
    have HB := hid (Below.refl w.heap.size w)
    go_enter Try.func21, Try.ntmps21
    go_wp2
    all_goals
      go_returns
      refine ⟨?_, ?_⟩
      · simp [holdsB, lt, *]
        try omega
      · repeat (first | exact HB.out | exact Below.refl _ _ | apply below_alloc | apply below_drewN | apply below_drew | refine below_set ?_ (by omega))

set_option maxHeartbeats 1000000 in
theorem rNone (lo hi : ByteArray) (top : Bool) (w : World) :
    Calls Try.prog 24 #[rng lo hi top] w (Ret (.bool (noneB lo hi top)) w) := by
  cases h0 : top
  all_goals
    have HB := hid (Below.refl w.heap.size w)
    go_enter Try.func24, Try.ntmps24
    go_wp2
    all_goals
      go_returns
      refine ⟨?_, ?_⟩
      · simp [noneB, *]
        try omega
      · repeat (first | exact HB.out | exact Below.refl _ _ | apply below_alloc | apply below_drewN | apply below_drew | refine below_set ?_ (by omega))

set_option maxHeartbeats 1000000 in
theorem rOver (lo hi : ByteArray) (top : Bool) (lo' hi' : ByteArray) (top' : Bool) (w : World) :
    Calls Try.prog 31 #[rng lo hi top, rng lo' hi' top'] w (Ret (.bool (overB lo hi top lo' hi' top')) w) := by
  cases h0 : top <;> cases h1 : top'
  all_goals
    have HB := hid (Below.refl w.heap.size w)
    go_enter Try.func31, Try.ntmps31
    go_wp2
    all_goals
      go_returns
      refine ⟨?_, ?_⟩
      · simp [overB, lt, *]
        try omega
      · repeat (first | exact HB.out | exact Below.refl _ _ | apply below_alloc | apply below_drewN | apply below_drew | refine below_set ?_ (by omega))

set_option maxHeartbeats 1000000 in
theorem rIn (lo hi : ByteArray) (top : Bool) (lo' hi' : ByteArray) (top' : Bool) (w : World) :
    Calls Try.prog 32 #[rng lo hi top, rng lo' hi' top'] w (Ret (.bool (withinB lo hi top lo' hi' top')) w) := by
  cases h0 : lt lo lo' <;> cases h1 : top <;> cases h2 : top'
  all_goals
    try simp only [lt] at h0
    have HB := hid (Below.refl w.heap.size w)
    go_enter Try.func32, Try.ntmps32
    go_wp2
    all_goals
      go_returns
      refine ⟨?_, ?_⟩
      · simp [withinB, lt, *]
        try omega
      · repeat (first | exact HB.out | exact Below.refl _ _ | apply below_alloc | apply below_drewN | apply below_drew | refine below_set ?_ (by omega))

set_option maxHeartbeats 1000000 in
theorem rBoth (lo hi : ByteArray) (top : Bool) (lo' hi' : ByteArray) (top' : Bool) (w : World) :
    Calls Try.prog 33 #[rng lo hi top, rng lo' hi' top'] w (Ret (rng (smx lo lo') (meetHi lo hi top lo' hi' top') (top && top')) w) := by
  cases h0 : top <;> cases h1 : top'
  all_goals
    have HB := hid (Below.refl w.heap.size w)
    go_enter Try.func33, Try.ntmps33
    go_wp2
    all_goals
      go_returns
      refine ⟨?_, ?_⟩
      · simp [meetHi, *]
        try omega
      · repeat (first | exact HB.out | exact Below.refl _ _ | apply below_alloc | apply below_drewN | apply below_drew | refine below_set ?_ (by omega))

set_option maxHeartbeats 1000000 in
theorem All  (w : World) :
    Calls Try.prog 25 #[] w (Ret (rng ⟨#[]⟩ ⟨#[]⟩ true) w) := by
  have HB := hid (Below.refl w.heap.size w)
  go_enter Try.func25, Try.ntmps25
  go_wp2
  all_goals
    go_returns
    refine ⟨?_, ?_⟩
    · simp [*]
      try omega
    · repeat (first | exact HB.out | exact Below.refl _ _ | apply below_alloc | apply below_drewN | apply below_drew | refine below_set ?_ (by omega))

set_option maxHeartbeats 1000000 in
theorem rAll  (w : World) :
    Calls Try.prog 26 #[] w (Ret (rng ⟨#[]⟩ ⟨#[]⟩ true) w) := by
  have HB := hid (Below.refl w.heap.size w)
  go_enter Try.func26, Try.ntmps26
  go_wp2
  all_goals
    go_returns
    refine ⟨?_, ?_⟩
    · simp [*]
      try omega
    · repeat (first | exact HB.out | exact Below.refl _ _ | apply below_alloc | apply below_drewN | apply below_drew | refine below_set ?_ (by omega))

set_option maxHeartbeats 1000000 in
theorem num (n : Int) (w : World) :
    Calls Try.prog 15 #[.int .i64 n] w (Ret (.int .i64 n) w) := by
  have HB := hid (Below.refl w.heap.size w)
  go_enter Try.func15, Try.ntmps15
  go_wp2
  all_goals
    go_returns
    refine ⟨?_, ?_⟩
    · simp [*]
      try omega
    · repeat (first | exact HB.out | exact Below.refl _ _ | apply below_alloc | apply below_drewN | apply below_drew | refine below_set ?_ (by omega))

theorem One_yes (s : ByteArray) (h : isB s = true) (w : World) :
    Calls Try.prog 12 #[.string s] w (Ret (.tuple #[rng s (s ++ ⟨#[0]⟩) false, .int .i64 0]) w) := by
  refine (One s w).mono ?_
  rintro e w' ⟨rfl, hb⟩
  exact ⟨by simp [oneV, oks, h], hb⟩
theorem Has_a (w : World) : Calls Try.prog 19 #[rng ⟨#[97]⟩ (⟨#[97]⟩ ++ ⟨#[0]⟩) false, .string ⟨#[97]⟩] w (Ret (.tuple #[.bool true, .int .i64 0]) w) := by
  have e1 : mayB ⟨#[97]⟩ (⟨#[97]⟩ ++ ⟨#[0]⟩) false = true := by decide +kernel
  have e2 : isB ⟨#[97]⟩ = true := by decide +kernel
  have e3 : holdsB ⟨#[97]⟩ (⟨#[97]⟩ ++ ⟨#[0]⟩) false ⟨#[97]⟩ = true := by decide +kernel
  have hh := Has ⟨#[97]⟩ (⟨#[97]⟩ ++ ⟨#[0]⟩) false ⟨#[97]⟩ w
  rw [e1, e2, e3] at hh
  exact hh
end Go.Proofs.Ytjlaphnpajeoeaa.K
