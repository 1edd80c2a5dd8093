/- How the program's things lie in memory. -/
import Derived.Test.YtcagogdllnlihaaGreatAm2
set_option linter.all false
namespace Go.Am
def encB (b : Blk) : List Value := b.map (.int .u8)
def encW (x : Int × Blk) : List Value := .int .i64 x.1 :: encB x.2
def ptrTo (k : Nat) : Value := .pointer (some (new k 0))
def encLine (L : LineS) : List Value :=
  [.int .i64 L.members] ++ (L.known.map .bool ++ (L.dirty.map .bool ++ (L.blocks.flatMap encB ++ [.int .u64 L.first])))
structure LineS.Wf (L : LineS) : Prop where
  m0 : 0 ≤ L.members
  m16 : L.members ≤ 16
  kn : L.known.length = 16
  dt : L.dirty.length = 16
  bl : L.blocks.length = 16
  bs : ∀ b ∈ L.blocks, b.length = 64
structure DiskS.Wf (D : DiskS) : Prop where
  pos : D.sure ≠ []
  most : D.sure.length ≤ 512
  bs : ∀ b ∈ D.sure, b.length = 64
  ln : ∀ x ∈ D.loose, 0 ≤ x.1 ∧ x.1 < D.sure.length
  lb : ∀ x ∈ D.loose, x.2.length = 64
  few : D.loose.length ≤ 2 ^ 40
def layDisk (D : DiskS) : List Ob := match D.loose with
  | [] => [.cells 167 [.slice (some (new 1 0)) D.sure.length 66, .slice none 0 0, .bool D.dead], .cells 57 (D.sure.flatMap encB)]
  | l => [.cells 167 [.slice (some (new 1 0)) D.sure.length 66, .slice (some (new 2 0)) l.length 67, .bool D.dead], .cells 57 (D.sure.flatMap encB), .cells 219 (l.flatMap encW)]
def layBench (B : BenchS) : List Ob :=
  .cells 112 [.slice (some (new 1 0)) B.disks.length 3, .int .i64 B.steps, .int .i64 B.armed, .bool B.dark] ::
  .cells 109 ((List.range B.disks.length).map fun k => ptrTo (2 + k)) :: B.disks.map fun d => .ghost (.disk d)
/-- a ghost's own things: the first one is what its pointer leads to; number k of the list is named k in the others -/
def Lay : Gh → List Ob → Prop
  | .line L, l => l = [.cells 156 (encLine L)] ∧ L.Wf
  | .disk D, l => l = layDisk D ∧ D.Wf
  | .bench B, l => l = layBench B ∧ B.disks ≠ [] ∧ ∀ d ∈ B.disks, d.Wf
  | _, _ => False
end Go.Am
