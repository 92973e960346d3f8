/-
  The data of the program, as Lean types, and as abstract data.
-/
import Derived.Test.YtjlfjjigccedjaaAxTbl
namespace Go.RF
open Go.AX

abbrev Str := List UInt8
abbrev i64 (n : Int) : Value := .int .i64 n
abbrev dint (n : Int) : D := .v (.int .i64 n)
abbrev dbool (b : Bool) : D := .v (.bool b)
abbrev dstr (s : Str) : D := .v (str s)

structure Pair where
  key : Str
  n : Int
  deriving DecidableEq
structure Version where
  by_ : Int
  made : Bool
  has : Bool
  n : Int
  deriving DecidableEq
structure Chain where
  key : Str
  vs : List Version
  deriving DecidableEq
structure Ins where
  kind : Int
  a : Int
  b : Int
  n : Int
  key : Str
  deriving DecidableEq
structure Deed where
  reads : List Str
  writes : List Str
  code : List Ins
  deriving DecidableEq
structure Done where
  failed : Bool
  r0 : Int
  r1 : Int
  r2 : Int
  r3 : Int
  deriving DecidableEq
structure Engine where
  chains : List Chain
  deeds : List Deed
  state : List Int
  ends : List Done
  base : Int
  deriving DecidableEq

def Pair.enc (p : Pair) : List D := [dstr p.key, dint p.n]
def Version.enc (v : Version) : List D := [dint v.by_, dbool v.made, dbool v.has, dint v.n]
def encVs (l : List Version) : D := .sl 4 (l.map Version.enc)
def Chain.enc (c : Chain) : List D := [dstr c.key, encVs c.vs]
def Ins.enc (i : Ins) : List D := [dint i.kind, dint i.a, dint i.b, dint i.n, dstr i.key]
def encStr1 (s : Str) : List D := [dstr s]
def encInt1 (n : Int) : List D := [dint n]
def encStrs (l : List Str) : D := .sl 1 (l.map encStr1)
def encInts (l : List Int) : D := .sl 1 (l.map encInt1)
def encCode (l : List Ins) : D := .sl 5 (l.map Ins.enc)
def Deed.enc (d : Deed) : List D := [encStrs d.reads, encStrs d.writes, encCode d.code]
def Done.enc (d : Done) : List D := [dbool d.failed, dint d.r0, dint d.r1, dint d.r2, dint d.r3]
def encRows (l : List Pair) : D := .sl 2 (l.map Pair.enc)
def encChains (l : List Chain) : D := .sl 2 (l.map Chain.enc)
def encDeeds (l : List Deed) : D := .sl 3 (l.map Deed.enc)
def encEnds (l : List Done) : D := .sl 5 (l.map Done.enc)
def Engine.enc (e : Engine) : List D := [encChains e.chains, encDeeds e.deeds, encInts e.state, encEnds e.ends, dint e.base]

theorem dle_int {n m : Int} (h : n = m) : DLe (dint n) (dint m) := by rw [h]; exact .refl _
theorem dle_bool {n m : Bool} (h : n = m) : DLe (dbool n) (dbool m) := by rw [h]; exact .refl _
theorem dle_eq {x y : D} (h : x = y) : DLe x y := by rw [h]; exact .refl _

theorem idx_map {α : Type} {l : List α} {f : α → List D} {k : Nat} {x : α} (h : l[k]? = some x) : idx (l.map f) (k : Int) = some (f x) := by
  simp [idx, List.getElem?_map, h]

end Go.RF
