/-
  The table of the program's types, as the program has them.
-/
import Derived.Test.YtjlfjjigccedjaaAxTbl
import Derived.Test.YtjlfjjigccedjaaProg
import Derived.KernelRfl
namespace Go.Proofs.Ytjlfjjigccedjaa
open Go.AX

def tbl : Tbl := [
  (2, ⟨1, 8, [.int .i64 0], .int .i64⟩),
  (3, ⟨1, 8, [.int .i64 0], .int .i64⟩),
  (4, ⟨1, 1, [.bool false], .bool⟩),
  (5, ⟨1, 1, [.int .u8 0], .int .u8⟩),
  (9, ⟨1, 16, [.string ⟨#[]⟩], .str⟩),
  (12, ⟨1, 8, [.int .u64 0], .int .u64⟩),
  (13, ⟨2, 24, [.string ⟨#[]⟩, .int .u64 0], .st [(0, 1), (1, 1)]⟩),
  (21, ⟨1, 4, [.int .i32 0], .int .i32⟩),
  (22, ⟨1, 8, [.int .i64 0], .int .i64⟩),
  (23, ⟨1, 24, [.slice none 0 0], .sl 22 1⟩),
  (24, ⟨1, 24, [.slice none 0 0], .sl 3 1⟩),
  (33, ⟨1, 4, [.int .u32 0], .int .u32⟩),
  (37, ⟨1, 8, [.pointer none], .one⟩)]

theorem tbl_b : tblB Go.Proofs.Try.prog tbl = true := by kernel_rfl
theorem tbl_ok : TOk Go.Proofs.Try.prog tbl := tok_of tbl_b
theorem mixed_ok : Go.Proofs.Try.prog.follows .mixedOrders = true := by kernel_rfl

end Go.Proofs.Ytjlfjjigccedjaa
