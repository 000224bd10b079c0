/- Contracts of packages key and plan: what each comes to. -/
import Derived.Test.YtldjgcgcbcmkfaaProg
import Derived.Below
import Derived.WalkKit
import Derived.KernelRfl
import Derived.RowKit
import Derived.RowKit3
import Derived.Tactics
import Derived.Deep.QuietTactic
import Derived.BigQuiet
import Derived.OwnWalk
import Derived.Outline
import Derived.Handy
import Derived.Lib.Strings
import Derived.Test.YtldjgcgcbcmkfaaS
namespace Go.Proofs.Ytldjgcgcbcmkfaa.K
open Go.RowKit Go.Proofs.YtldjgcgcbcmkfaaS
set_option linter.unusedSimpArgs false
set_option linter.unusedVariables false
attribute [local go_sem] s_leq s_gtr s_geq s_maxr s_minr

/-- Where only reads and new memory happened: the old world is as it was. -/
def Ret (v : Value) (w : World) (e : Ending) (w' : World) : Prop := e = .returned v ∧ Below w.heap.size w w'
theorem hid {p : Prop} (h : p) : Hid p := h
theorem bcell {W w1 : World} (hb : Below W.heap.size W w1) : (∀ b o, b < W.heap.size → w1.cell? ⟨b, o, none⟩ = W.cell? ⟨b, o, none⟩) ∧ (∀ b o, b < W.heap.size → w1.frozen? ⟨b, o, none⟩ = W.frozen? ⟨b, o, none⟩) ∧ W.heap.size ≤ w1.heap.size :=
  ⟨fun b o h => hb.cell (p := ⟨b, o, none⟩) h, fun b o h => hb.frozen (p := ⟨b, o, none⟩) h, hb.size⟩
theorem below_step {w W w1 : World} (h : Below w.heap.size w W) (hb : Below W.heap.size W w1) : Below w.heap.size w w1 := h.trans (hb.mono h.size)
theorem below_alloc {w a : World} (h : Below w.heap.size w a) (o : Obj) : Below w.heap.size w (a.alloc o) := h.alloc h.size o
theorem below_set {w W : World} {g j : Nat} {v : Value} (h : Below w.heap.size w W) (hg : w.heap.size ≤ g) : Below w.heap.size w (W.setCell ⟨g, j, none⟩ v) := h.setCell hg _
theorem below_drewN {w a : World} (h : Below w.heap.size w a) (n : Nat) : Below w.heap.size w (a.drewN n) := ⟨h.os, h.tape, h.output, h.size, h.block⟩
theorem below_drew {w a : World} (h : Below w.heap.size w a) : Below w.heap.size w a.drew := h.drew

def lt (a b : ByteArray) : Bool := Op.bytesLess a.toList b.toList
def mayB (lo hi : ByteArray) (top : Bool) : Bool := if 13 < lo.size ∨ 13 < hi.size then false else if top then hi.toList.isEmpty else !lt hi lo
def isB (s : ByteArray) : Bool := !s.toList.isEmpty && decide ((s.size : Int) ≤ 12)
def fitsB (s : ByteArray) : Bool := decide ((s.size : Int) ≤ 20)
/-- An op. -/
structure OpV where (kind table : Int) (key value lo hi : ByteArray) (top : Bool) (n : Int) (back : Bool)
abbrev OpV.val (o : OpV) : Value := .agg #[.int .i64 o.kind, .int .i64 o.table, .string o.key, .string o.value, .string o.lo, .string o.hi, .bool o.top, .int .i64 o.n, .bool o.back]
abbrev opv (kind table : Int) (key value lo hi : ByteArray) (top : Bool) (n : Int) (back : Bool) : Value := .agg #[.int .i64 kind, .int .i64 table, .string key, .string value, .string lo, .string hi, .bool top, .int .i64 n, .bool back]
def keyedB (kind : Int) : Bool := decide (1 ≤ kind) && decide (kind ≤ 5)
def valuedB (kind : Int) : Bool := kind == 3 || kind == 4
def tabledB (kind : Int) : Bool := decide (1 ≤ kind) && decide (kind ≤ 7)
def numberB (kind n : Int) : Bool := bif kind == 6 then decide (0 ≤ n) && decide (n ≤ 1073741824) else bif kind == 7 then n == 1 || n == 2 else bif kind == 9 || kind == 10 then decide (0 ≤ n) && decide (n < 6) else n == 0
set_option maxHeartbeats 1000000 in
theorem May (lo hi : ByteArray) (top : Bool) (w : World) :
    Calls Try.prog 35 #[.agg #[.string lo, .string hi, .bool top]] w (Ret (.bool (mayB lo hi top)) w) := by
  have HB := hid (Below.refl w.heap.size w)
  go_enter Try.func35, Try.ntmps35
  go_wp2
  all_goals
    go_returns
    refine ⟨?_, ?_⟩
    · simp [mayB, lt, *]
      try omega
    · repeat (first | exact HB.out | exact Below.refl _ _ | apply below_alloc | apply below_drewN | apply below_drew | refine below_set ?_ (by omega))

set_option maxHeartbeats 1000000 in
theorem Is (s : ByteArray) (w : World) :
    Calls Try.prog 32 #[.string s] w (Ret (.bool (isB s)) w) := by
  have HB := hid (Below.refl w.heap.size w)
  go_enter Try.func32, Try.ntmps32
  go_wp2
  all_goals
    go_returns
    refine ⟨?_, ?_⟩
    · simp [isB, *]
      try omega
    · repeat (first | exact HB.out | exact Below.refl _ _ | apply below_alloc | apply below_drewN | apply below_drew | refine below_set ?_ (by omega))

set_option maxHeartbeats 1000000 in
theorem Fits (s : ByteArray) (w : World) :
    Calls Try.prog 34 #[.string s] w (Ret (.bool (fitsB s)) w) := by
  have HB := hid (Below.refl w.heap.size w)
  go_enter Try.func34, Try.ntmps34
  go_wp2
  all_goals
    go_returns
    refine ⟨?_, ?_⟩
    · simp [fitsB, *]
      try omega
    · repeat (first | exact HB.out | exact Below.refl _ _ | apply below_alloc | apply below_drewN | apply below_drew | refine below_set ?_ (by omega))

set_option maxHeartbeats 1000000 in
theorem keyed (kind table : Int) (key value lo hi : ByteArray) (top : Bool) (n : Int) (back : Bool) (w : World) :
    Calls Try.prog 31 #[opv kind table key value lo hi top n back] w (Ret (.bool (keyedB kind)) w) := by
  have HB := hid (Below.refl w.heap.size w)
  go_enter Try.func31, Try.ntmps31
  go_wp2
  all_goals
    go_returns
    refine ⟨?_, ?_⟩
    · simp [keyedB, *]
      try omega
    · repeat (first | exact HB.out | exact Below.refl _ _ | apply below_alloc | apply below_drewN | apply below_drew | refine below_set ?_ (by omega))

set_option maxHeartbeats 1000000 in
theorem valued (kind table : Int) (key value lo hi : ByteArray) (top : Bool) (n : Int) (back : Bool) (w : World) :
    Calls Try.prog 33 #[opv kind table key value lo hi top n back] w (Ret (.bool (valuedB kind)) w) := by
  have HB := hid (Below.refl w.heap.size w)
  go_enter Try.func33, Try.ntmps33
  go_wp2
  all_goals
    go_returns
    refine ⟨?_, ?_⟩
    · simp [valuedB, *]
      try omega
    · repeat (first | exact HB.out | exact Below.refl _ _ | apply below_alloc | apply below_drewN | apply below_drew | refine below_set ?_ (by omega))

set_option maxHeartbeats 1000000 in
theorem tabled (kind table : Int) (key value lo hi : ByteArray) (top : Bool) (n : Int) (back : Bool) (w : World) :
    Calls Try.prog 30 #[opv kind table key value lo hi top n back] w (Ret (.bool (tabledB kind)) w) := by
  have HB := hid (Below.refl w.heap.size w)
  go_enter Try.func30, Try.ntmps30
  go_wp2
  all_goals
    go_returns
    refine ⟨?_, ?_⟩
    · simp [tabledB, *]
      try omega
    · repeat (first | exact HB.out | exact Below.refl _ _ | apply below_alloc | apply below_drewN | apply below_drew | refine below_set ?_ (by omega))

set_option maxHeartbeats 1000000 in
theorem number (kind table : Int) (key value lo hi : ByteArray) (top : Bool) (n : Int) (back : Bool) (w : World) :
    Calls Try.prog 29 #[opv kind table key value lo hi top n back] w (Ret (.bool (numberB kind n)) w) := by
  have HB := hid (Below.refl w.heap.size w)
  go_enter Try.func29, Try.ntmps29
  go_wp2
  all_goals
    go_returns
    refine ⟨?_, ?_⟩
    · simp [numberB, *]
      try omega
    · repeat (first | exact HB.out | exact Below.refl _ _ | apply below_alloc | apply below_drewN | apply below_drew | refine below_set ?_ (by omega))
end Go.Proofs.Ytldjgcgcbcmkfaa.K
