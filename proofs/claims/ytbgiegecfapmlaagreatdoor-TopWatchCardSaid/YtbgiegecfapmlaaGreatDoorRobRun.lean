/- What package robust makes of jobs, tick by tick, as plain lists; conditions: none. -/
import Derived.Test.YtbgiegecfapmlaaGreatDoorRobPlain
import Derived.Shelf.SlSortCmp.Insertion
import Derived.Sort.LotA
namespace Go.Proofs.YtbgiegecfapmlaaGreatDoor
set_option linter.unusedVariables false
namespace Rob
open Edf
section
variable (js : List J)
def relAt (i : Nat) : Int := (js[i]?.map (·.rel)).getD 0
def budAt (i : Nat) : Int := (js[i]?.map (·.bud)).getD 0
def actAt (i : Nat) : Int := (js[i]?.map (·.act)).getD 0
def valAt (i : Nat) : Int := (js[i]?.map (·.val)).getD 0
def workAt (i : Nat) : Int := (js[i]?.map (·.work)).getD 0
def hardAt (i : Nat) : Bool := (js[i]?.map (·.hard)).getD false
end
def setI (s : St) (i : Nat) (k : Int) : St := { s with is := s.is.set i k }
def say (s : St) (i : Nat) (k t : Int) : St := { s with fs := s.fs.set i (k, t) }
section
variable (js : List J)
/-- Shed ones that cannot be done any more, of the first n. -/
def late (now : Int) (s : St) : Nat → St
  | 0 => s
  | n + 1 => if opn (late now s n) n 2 = true ∧ dlAt js n - now < need js (late now s n) n then say (late now s n) n 3 now else late now s n
/-- Which one is given up, of the first n; -1: none. -/
def least (s : St) : Nat → Int
  | 0 => -1
  | n + 1 => if opn s n 1 = true ∧ hardAt js n = false ∧ ranAt s n < budAt js n ∧ (least s n < 0 ∨ valAt js n ≤ valAt js (least s n).toNat) then (n : Int) else least s n
def give (s : St) (k : Nat) : St := { s with is := s.is.set k 2, sh := s.sh ++ [(k : Int)] }
def refuse (now : Int) (i n0 : Nat) (s : St) : St := say { s with is := (s.sh.drop n0).foldl (fun is k => is.set k.toNat 1) s.is, sh := s.sh.take n0 } i 4 now
def arrLoop (now : Int) (i n0 : Nat) : Nat → St → St
  | 0, s => s
  | f + 1, s => if fits js s now = true then s else if least js s js.length < 0 then refuse now i n0 s else arrLoop now i n0 f (give s (least js s js.length).toNat)
def arrive (now : Int) (s : St) (i : Nat) : St := arrLoop js now i s.sh.length (js.length + 1) (setI s i 1)
def arrs (now : Int) (s : St) : Nat → St
  | 0 => s
  | n + 1 => if relAt js n = now then arrive js now (arrs now s n) n else arrs now s n
/-- The shed ones, of the first n. -/
def shedTo (s : St) : Nat → List Nat
  | 0 => []
  | n + 1 => shedTo s n ++ if opn s n 2 = true then [n] else []
/-- Greater values first: what slices.SortStableFunc asks. -/
def cfV (x y : Fin js.length) : Int := Lib.compareInt (valAt js y.val) (valAt js x.val)
def finsOf (l : List Nat) : List (Fin js.length) := l.filterMap fun x => if h : x < js.length then some ⟨x, h⟩ else none
/-- The library's insertion sort, by value. -/
def sortV (l : List Nat) : List Nat :=
  if h : 0 < js.length then
    haveI : Inhabited (Fin js.length) := ⟨⟨0, h⟩⟩
    (Go.Sort.insertionSort (ltOf (cfV js)) (finsOf js l).toArray 0 (finsOf js l).length).toList.map (·.val)
  else l
def againGo (now : Int) : List Nat → St → St
  | [], s => s
  | i :: l, s => if fits js (setI s i 1) (now + 1) = true then againGo now l { setI s i 1 with ag := s.ag ++ [(i : Int)] } else againGo now l (setI (setI s i 1) i 2)
def again (now : Int) (s : St) : St := againGo js now (sortV js (shedTo s js.length)) s
/-- Who runs, of the first n. -/
def head (s : St) : Nat → Int
  | 0 => -1
  | n + 1 => if opn s n 1 = true ∧ (head s n < 0 ∨ dlAt js n < dlAt js (head s n).toNat) then (n : Int) else head s n
def work1 (s : St) (i : Nat) : St := { s with ran := s.ran.set i (ranAt s i + 1) }
def fin (now : Int) (s : St) (i : Nat) : St :=
  if ranAt s i < workAt js i then s
  else if budAt js i < actAt js i then say s i 2 (now + 1)
  else if actAt js i < budAt js i then again js now (say s i 1 (now + 1)) else say s i 1 (now + 1)
def run (now : Int) (s : St) : St :=
  if head js s js.length < 0 then { s with tr := s.tr ++ [head js s js.length] }
  else fin js now (work1 { s with tr := s.tr ++ [head js s js.length] } (head js s js.length).toNat) (head js s js.length).toNat
def step (now : Int) (s : St) : St := run js now (arrs js now (late js now s js.length) js.length)
def play (s : St) : Nat → St
  | 0 => s
  | n + 1 => step js (n : Int) (play s n)
def lastTo (now : Int) (s : St) : Nat → St
  | 0 => s
  | n + 1 => if opn (lastTo now s n) n 2 = true then say (lastTo now s n) n 3 now else lastTo now s n
def start : St := ⟨List.replicate js.length 0, List.replicate js.length 0, List.replicate js.length (0, 0), [], [], []⟩
def result (e : Nat) : St := lastTo (e : Int) (play js (start js) e) js.length
end
end Rob
end Go.Proofs.YtbgiegecfapmlaaGreatDoor
