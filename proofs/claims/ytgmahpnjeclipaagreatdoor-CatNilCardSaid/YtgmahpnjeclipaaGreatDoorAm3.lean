/- What the abstract machine takes as answered at once: Room, sorted keys, and four functions without a Go body. No condition: definitions alone. -/
import Derived.Test.YtgmahpnjeclipaaGreatDoorAm2
import Derived.Laws.Externs
namespace Go.AM

abbrev XFun := List AVal → AHeap → Option (AVal × AHeap)

/-- The sectors that files have. -/
def sectorsOf (H : AHeap) : List (Value × AVal) → Option Int
  | [] => some 0
  | (_, v) :: l =>
    match v with
    | .ptr b 0 =>
      match H.get b with
      | some (.cells (.slice _ _ n _ _ :: _)) => (sectorsOf H l).map fun s => s + n
      | some (.cells (.prim (.slice _ n _) :: _)) => (sectorsOf H l).map fun s => s + n
      | _ => none
    | _ => none

/-- (*FS).Room -/
def xRoom : XFun
  | [.ptr b 0], H =>
    match H.get b with
    | some (.cells [.prim (.int .i64 most), _, _, .prim (.bool down), m]) =>
      if down then some (int 0, H) else
      match entriesOf m H with
      | some es => (sectorsOf H es).map fun s => (int (most - s), H)
      | none => none
    | _ => none
  | _, _ => none

def insertInt (n : Int) : List Int → List Int
  | [] => [n]
  | m :: l => if n ≤ m then n :: m :: l else m :: insertInt n l

def sortInts : List Int → List Int
  | [] => []
  | n :: l => insertInt n (sortInts l)

def intKeys : List (Value × AVal) → Option (List Int)
  | [] => some []
  | (.int .i64 n, _) :: l => (intKeys l).map fun r => n :: r
  | _ :: _ => none

/-- slices.Sorted of maps.Keys of a map of numbers; 'keys': the closure's function. -/
def xSorted (keys : FuncId) : XFun
  | [.func f [] [.ptr b 0]], H =>
    if f = keys then
      match H.get b with
      | some (.cells [m]) =>
        match entriesOf m H with
        | some es =>
          match intKeys es with
          | some [] => some (nilSlice, H)
          | some ks => some (.slice H.n 0 ks.length 1 none, H.push (.cells ((sortInts ks).map int)))
          | none => none
        | none => none
      | _ => none
    else none
  | _, _ => none

/-- internal/bytealg.Compare -/
def xCompare : XFun
  | [a, b], H =>
    match sliceCells a 1 H, sliceCells b 1 H with
    | some x, some y =>
      match bytesOf x, bytesOf y with
      | some x, some y => some (int (Extern.BytealgCompare.cmp ⟨x.toArray⟩ ⟨y.toArray⟩), H)
      | _, _ => none
    | _, _ => none
  | _, _ => none

/-- internal/bytealg.CountString -/
def xCount : XFun
  | [.prim (.string s), .prim (.int .u8 c)], H => some (int (s.foldl (fun n x => if x == c.toNat.toUInt8 then n + 1 else n) (0 : Nat)), H)
  | _, _ => none

/-- internal/bytealg.IndexByteString -/
def xIndexByte : XFun
  | [.prim (.string s), .prim (.int .u8 c)], H => some (int (firstIdx s c.toNat.toUInt8), H)
  | _, _ => none

end Go.AM
