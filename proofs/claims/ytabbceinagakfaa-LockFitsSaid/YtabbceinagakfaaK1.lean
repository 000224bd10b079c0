/- Contracts of package key's functions: what each comes to. -/
import Derived.Test.YtabbceinagakfaaProg
import Derived.Below
import Derived.WalkKit
import Derived.KernelRfl
import Derived.RowKit
import Derived.RowKit3
import Derived.Tactics
import Derived.Deep.QuietTactic
import Derived.BigQuiet
import Derived.OwnWalk
import Derived.Outline
import Derived.Handy
import Derived.Lib.Strings
import Derived.Test.YtabbceinagakfaaS
namespace Go.Proofs.Ytabbceinagakfaa.K
open Go.RowKit Go.Proofs.YtabbceinagakfaaS
set_option linter.unusedSimpArgs false
set_option linter.unusedVariables false
attribute [local go_sem] s_leq s_gtr s_geq s_maxr s_minr

/-- Where only reads and new memory happened: the old world is as it was. -/
def Ret (v : Value) (w : World) (e : Ending) (w' : World) : Prop := e = .returned v ∧ Below w.heap.size w w'
theorem hid {p : Prop} (h : p) : Hid p := h
theorem bcell {W w1 : World} (hb : Below W.heap.size W w1) : (∀ b o, b < W.heap.size → w1.cell? ⟨b, o, none⟩ = W.cell? ⟨b, o, none⟩) ∧ (∀ b o, b < W.heap.size → w1.frozen? ⟨b, o, none⟩ = W.frozen? ⟨b, o, none⟩) ∧ W.heap.size ≤ w1.heap.size :=
  ⟨fun b o h => hb.cell (p := ⟨b, o, none⟩) h, fun b o h => hb.frozen (p := ⟨b, o, none⟩) h, hb.size⟩
theorem below_step {w W w1 : World} (h : Below w.heap.size w W) (hb : Below W.heap.size W w1) : Below w.heap.size w w1 := h.trans (hb.mono h.size)
theorem below_alloc {w a : World} (h : Below w.heap.size w a) (o : Obj) : Below w.heap.size w (a.alloc o) := h.alloc h.size o
theorem below_set {w W : World} {g j : Nat} {v : Value} (h : Below w.heap.size w W) (hg : w.heap.size ≤ g) : Below w.heap.size w (W.setCell ⟨g, j, none⟩ v) := h.setCell hg _
theorem below_drewN {w a : World} (h : Below w.heap.size w a) (n : Nat) : Below w.heap.size w (a.drewN n) := ⟨h.os, h.tape, h.output, h.size, h.block⟩
theorem below_drew {w a : World} (h : Below w.heap.size w a) : Below w.heap.size w a.drew := h.drew

def lt (a b : ByteArray) : Bool := Op.bytesLess a.toList b.toList
def mayB (lo hi : ByteArray) (top : Bool) : Bool := if 13 < lo.size ∨ 13 < hi.size then false else if top then hi.toList.isEmpty else !lt hi lo
def isB (s : ByteArray) : Bool := !s.toList.isEmpty && decide ((s.size : Int) ≤ 12)
def fitsB (s : ByteArray) : Bool := decide ((s.size : Int) ≤ 20)
def holdsB (lo hi : ByteArray) (top : Bool) (k : ByteArray) : Bool := !lt k lo && (top || lt k hi)
def emptyB (lo hi : ByteArray) (top : Bool) : Bool := !(top || lt lo hi)
def withinB (lo hi : ByteArray) (top : Bool) (lo' hi' : ByteArray) (top' : Bool) : Bool := !lt lo lo' && (top' || !top && !lt hi' hi)
def meetHi (lo hi : ByteArray) (top : Bool) (lo' hi' : ByteArray) (top' : Bool) : ByteArray :=
  if top && top' then ⟨#[]⟩ else smx (if top then hi' else if top' then hi else smn hi hi') (smx lo lo')
def sharesB (lo hi : ByteArray) (top : Bool) (lo' hi' : ByteArray) (top' : Bool) : Bool := !emptyB (smx lo lo') (meetHi lo hi top lo' hi' top') (top && top')
abbrev rng (lo hi : ByteArray) (top : Bool) : Value := .agg #[.string lo, .string hi, .bool top]
abbrev rng0 : Value := .agg #[.string ⟨#[]⟩, .string ⟨#[]⟩, .bool false]
def oneV (s : ByteArray) : Value := if isB s then rng s (s ++ ⟨#[0]⟩) false else rng0
def noneB (lo hi : ByteArray) (top : Bool) : Bool := !top && lo.toList == hi.toList
def overB (lo hi : ByteArray) (top : Bool) (lo' hi' : ByteArray) (top' : Bool) : Bool := (top || lt (smx lo lo') hi) && (top' || lt (smx lo lo') hi')
theorem size_of {s : ByteArray} (h : isB s = true) : s.size ≤ 12 := by simp [isB] at h; omega
theorem empty_size (s : ByteArray) : s.toList.isEmpty = decide ((s.size : Int) < 1) := by
  have e : s.toList.length = s.size := by rw [Lib.toList_data]; simp
  cases h : s.toList <;> rw [h] at e <;> simp at e ⊢ <;> omega
def bothV (lo hi : ByteArray) (top : Bool) (lo' hi' : ByteArray) (top' : Bool) : Value := if mayB lo hi top && mayB lo' hi' top' then rng (smx lo lo') (meetHi lo hi top lo' hi' top') (top && top') else rng0
def oks (b : Bool) : Int := if b then 0 else 1
def modeB (m : Int) : Bool := decide (1 ≤ m) && decide (m ≤ 3)
def togB (a b : Int) : Bool := !(a == 3) && (!(b == 3) && (a == 1 || b == 1))
def numB (n most : Int) : Bool := decide (0 ≤ n) && decide (n ≤ most)
def btwB (n low high : Int) : Bool := decide (low ≤ n) && decide (n ≤ high)
set_option maxHeartbeats 1000000 in
theorem May (lo hi : ByteArray) (top : Bool) (w : World) :
    Calls Try.prog 50 #[rng lo hi top] w (Ret (.bool (mayB lo hi top)) w) := by
  have HB := hid (Below.refl w.heap.size w)
  go_enter Try.func50, Try.ntmps50
  go_wp2
  all_goals
    go_returns
    refine ⟨?_, ?_⟩
    · simp [mayB, lt, *]
      try omega
    · repeat (first | exact HB.out | exact Below.refl _ _ | apply below_alloc | apply below_drewN | apply below_drew | refine below_set ?_ (by omega))

set_option maxHeartbeats 1000000 in
theorem below (s : ByteArray) (lo hi : ByteArray) (top : Bool) (w : World) :
    Calls Try.prog 82 #[.string s, rng lo hi top] w (Ret (.bool (top || lt s hi)) w) := by
  cases h0 : top
  all_goals
    have HB := hid (Below.refl w.heap.size w)
    go_enter Try.func82, Try.ntmps82
    go_wp2
    all_goals
      go_returns
      refine ⟨?_, ?_⟩
      · simp [lt, *]
        try omega
      · repeat (first | exact HB.out | exact Below.refl _ _ | apply below_alloc | apply below_drewN | apply below_drew | refine below_set ?_ (by omega))

set_option maxHeartbeats 1000000 in
theorem Empty (lo hi : ByteArray) (top : Bool) (w : World) :
    Calls Try.prog 69 #[rng lo hi top] w (Ret (.bool (emptyB lo hi top)) w) := by
  have HB := hid (Below.refl w.heap.size w)
  go_enter Try.func69, Try.ntmps69
  go_wp2_with (first | (go_at_call 82; (with_reducible refine (below _ _ _ _  _).mono ?_); rintro e w1 ⟨rfl, hb⟩; have n_ : Hid (Below w.heap.size w w1) := hid (below_step (by repeat (first | exact HB.out | exact Below.refl _ _ | apply below_alloc | apply below_drewN | apply below_drew | refine below_set ?_ (by omega))) hb); clear HB; have HB := n_; clear n_; obtain ⟨hc, hf, -⟩ := bcell hb; have hz0_ : w.heap.size < w1.heap.size := (by have := hb.size; (try simp only [World.size_alloc, World.size_setCell, World.size_drew, World.heap_drewN] at this); omega); clear hb))
  all_goals
    go_returns
    refine ⟨?_, ?_⟩
    · simp [emptyB, *]
      try omega
    · repeat (first | exact HB.out | exact Below.refl _ _ | apply below_alloc | apply below_drewN | apply below_drew | refine below_set ?_ (by omega))

set_option maxHeartbeats 1000000 in
theorem Meet (lo hi : ByteArray) (top : Bool) (lo' hi' : ByteArray) (top' : Bool) (w : World) :
    Calls Try.prog 70 #[rng lo hi top, rng lo' hi' top'] w (Ret (rng (smx lo lo') (meetHi lo hi top lo' hi' top') (top && top')) w) := by
  cases h0 : top <;> cases h1 : top'
  all_goals
    have HB := hid (Below.refl w.heap.size w)
    go_enter Try.func70, Try.ntmps70
    go_wp2
    all_goals
      go_returns
      refine ⟨?_, ?_⟩
      · simp [meetHi, *]
        try omega
      · repeat (first | exact HB.out | exact Below.refl _ _ | apply below_alloc | apply below_drewN | apply below_drew | refine below_set ?_ (by omega))

set_option maxHeartbeats 1000000 in
theorem Shares (lo hi : ByteArray) (top : Bool) (lo' hi' : ByteArray) (top' : Bool) (w : World) :
    Calls Try.prog 66 #[rng lo hi top, rng lo' hi' top'] w (Ret (.bool (sharesB lo hi top lo' hi' top')) w) := by
  have HB := hid (Below.refl w.heap.size w)
  go_enter Try.func66, Try.ntmps66
  go_wp2_with (first | (go_at_call 70; (with_reducible refine (Meet _ _ _ _ _ _  _).mono ?_); rintro e w1 ⟨rfl, hb⟩; have n_ : Hid (Below w.heap.size w w1) := hid (below_step (by repeat (first | exact HB.out | exact Below.refl _ _ | apply below_alloc | apply below_drewN | apply below_drew | refine below_set ?_ (by omega))) hb); clear HB; have HB := n_; clear n_; obtain ⟨hc, hf, -⟩ := bcell hb; have hz0_ : w.heap.size < w1.heap.size := (by have := hb.size; (try simp only [World.size_alloc, World.size_setCell, World.size_drew, World.heap_drewN] at this); omega); have hz1_ : w.heap.size + 1 < w1.heap.size := (by have := hb.size; (try simp only [World.size_alloc, World.size_setCell, World.size_drew, World.heap_drewN] at this); omega); clear hb) | (go_at_call 69; (with_reducible refine (Empty _ _ _  _).mono ?_); rintro e w1 ⟨rfl, hb⟩; have n_ : Hid (Below w.heap.size w w1) := hid (below_step (by repeat (first | exact HB.out | exact Below.refl _ _ | apply below_alloc | apply below_drewN | apply below_drew | refine below_set ?_ (by omega))) hb); clear HB; have HB := n_; clear n_; obtain ⟨hc, hf, -⟩ := bcell hb; have hz0_ : w.heap.size < w1.heap.size := (by have := hb.size; (try simp only [World.size_alloc, World.size_setCell, World.size_drew, World.heap_drewN] at this); omega); have hz1_ : w.heap.size + 1 < w1.heap.size := (by have := hb.size; (try simp only [World.size_alloc, World.size_setCell, World.size_drew, World.heap_drewN] at this); omega); clear hb))
  all_goals
    go_returns
    refine ⟨?_, ?_⟩
    · simp [sharesB, *]
      try omega
    · repeat (first | exact HB.out | exact Below.refl _ _ | apply below_alloc | apply below_drewN | apply below_drew | refine below_set ?_ (by omega))

set_option maxHeartbeats 1000000 in
theorem Within (lo hi : ByteArray) (top : Bool) (lo' hi' : ByteArray) (top' : Bool) (w : World) :
    Calls Try.prog 60 #[rng lo hi top, rng lo' hi' top'] w (Ret (.bool (withinB lo hi top lo' hi' top')) w) := by
  cases h0 : lt lo lo' <;> cases h1 : top <;> cases h2 : top'
  all_goals
    try simp only [lt] at h0
    have HB := hid (Below.refl w.heap.size w)
    go_enter Try.func60, Try.ntmps60
    go_wp2
    all_goals
      go_returns
      refine ⟨?_, ?_⟩
      · simp [withinB, lt, *]
        try omega
      · repeat (first | exact HB.out | exact Below.refl _ _ | apply below_alloc | apply below_drewN | apply below_drew | refine below_set ?_ (by omega))

set_option maxHeartbeats 1000000 in
theorem rRange (lo hi : ByteArray) (top : Bool) (w : World) :
    Calls Try.prog 24 #[rng lo hi top] w (Ret (.bool (mayB lo hi top)) w) := by
  have HB := hid (Below.refl w.heap.size w)
  go_enter Try.func24, Try.ntmps24
  go_wp2
  all_goals
    go_returns
    refine ⟨?_, ?_⟩
    · simp [mayB, lt, *]
      try omega
    · repeat (first | exact HB.out | exact Below.refl _ _ | apply below_alloc | apply below_drewN | apply below_drew | refine below_set ?_ (by omega))

set_option maxHeartbeats 1000000 in
theorem rOver (lo hi : ByteArray) (top : Bool) (lo' hi' : ByteArray) (top' : Bool) (w : World) :
    Calls Try.prog 21 #[rng lo hi top, rng lo' hi' top'] w (Ret (.bool (overB lo hi top lo' hi' top')) w) := by
  cases h0 : top <;> cases h1 : top'
  all_goals
    have HB := hid (Below.refl w.heap.size w)
    go_enter Try.func21, Try.ntmps21
    go_wp2
    all_goals
      go_returns
      refine ⟨?_, ?_⟩
      · simp [overB, lt, *]
        try omega
      · repeat (first | exact HB.out | exact Below.refl _ _ | apply below_alloc | apply below_drewN | apply below_drew | refine below_set ?_ (by omega))

set_option maxHeartbeats 1000000 in
theorem rIn (lo hi : ByteArray) (top : Bool) (lo' hi' : ByteArray) (top' : Bool) (w : World) :
    Calls Try.prog 62 #[rng lo hi top, rng lo' hi' top'] w (Ret (.bool (withinB lo hi top lo' hi' top')) w) := by
  cases h0 : lt lo lo' <;> cases h1 : top <;> cases h2 : top'
  all_goals
    try simp only [lt] at h0
    have HB := hid (Below.refl w.heap.size w)
    go_enter Try.func62, Try.ntmps62
    go_wp2
    all_goals
      go_returns
      refine ⟨?_, ?_⟩
      · simp [withinB, lt, *]
        try omega
      · repeat (first | exact HB.out | exact Below.refl _ _ | apply below_alloc | apply below_drewN | apply below_drew | refine below_set ?_ (by omega))

set_option maxHeartbeats 1000000 in
theorem modeIs (m : Int) (w : World) :
    Calls Try.prog 51 #[.int .i64 m] w (Ret (.bool (modeB m)) w) := by
  have HB := hid (Below.refl w.heap.size w)
  go_enter Try.func51, Try.ntmps51
  go_wp2
  all_goals
    go_returns
    refine ⟨?_, ?_⟩
    · by_cases g1 : 1 ≤ m <;> by_cases g2 : m ≤ 3 <;> simp [modeB, g1, g2] <;> first | omega | skip
      try omega
    · repeat (first | exact HB.out | exact Below.refl _ _ | apply below_alloc | apply below_drewN | apply below_drew | refine below_set ?_ (by omega))

set_option maxHeartbeats 1000000 in
theorem rNum (n most : Int) (w : World) :
    Calls Try.prog 23 #[.int .i64 n, .int .i64 most] w (Ret (.bool (numB n most)) w) := by
  have HB := hid (Below.refl w.heap.size w)
  go_enter Try.func23, Try.ntmps23
  go_wp2
  all_goals
    go_returns
    refine ⟨?_, ?_⟩
    · by_cases g1 : 0 ≤ n <;> by_cases g2 : n ≤ most <;> simp [numB, g1, g2] <;> first | omega | skip
      try omega
    · repeat (first | exact HB.out | exact Below.refl _ _ | apply below_alloc | apply below_drewN | apply below_drew | refine below_set ?_ (by omega))

set_option maxHeartbeats 1000000 in
theorem rBtw (n low high : Int) (w : World) :
    Calls Try.prog 44 #[.int .i64 n, .int .i64 low, .int .i64 high] w (Ret (.bool (btwB n low high)) w) := by
  have HB := hid (Below.refl w.heap.size w)
  go_enter Try.func44, Try.ntmps44
  go_wp2
  all_goals
    go_returns
    refine ⟨?_, ?_⟩
    · by_cases g1 : low ≤ n <;> by_cases g2 : n ≤ high <;> simp [btwB, g1, g2] <;> first | omega | skip
      try omega
    · repeat (first | exact HB.out | exact Below.refl _ _ | apply below_alloc | apply below_drewN | apply below_drew | refine below_set ?_ (by omega))

set_option maxHeartbeats 1000000 in
theorem rMode (m : Int) (w : World) :
    Calls Try.prog 25 #[.int .i64 m] w (Ret (.bool (modeB m)) w) := by
  have HB := hid (Below.refl w.heap.size w)
  go_enter Try.func25, Try.ntmps25
  go_wp2_with (first | (go_at_call 44; (with_reducible refine (rBtw _ _ _  _).mono ?_); rintro e w1 ⟨rfl, hb⟩; have n_ : Hid (Below w.heap.size w w1) := hid (below_step (by repeat (first | exact HB.out | exact Below.refl _ _ | apply below_alloc | apply below_drewN | apply below_drew | refine below_set ?_ (by omega))) hb); clear HB; have HB := n_; clear n_; obtain ⟨hc, hf, -⟩ := bcell hb; clear hb))
  all_goals
    go_returns
    refine ⟨?_, ?_⟩
    · simp [modeB, btwB, *]
      try omega
    · repeat (first | exact HB.out | exact Below.refl _ _ | apply below_alloc | apply below_drewN | apply below_drew | refine below_set ?_ (by omega))
end Go.Proofs.Ytabbceinagakfaa.K
