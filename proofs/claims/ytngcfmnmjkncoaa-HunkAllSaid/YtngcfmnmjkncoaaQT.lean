/- The types of the program's functions as Lean's, and what is asked of each; no condition but the typed premises. -/
import Derived.Test.YtngcfmnmjkncoaaProg
import Derived.Test.YtngcfmnmjkncoaaQW
namespace Go.Proofs.Ytngcfmnmjkncoaa.Q
open Go
/-- quitclaim/hunk.Hunk -/
structure S_At_Old_New where
  f0_At : Int
  f1_Old : List ByteArray
  f2_New : List ByteArray
  deriving DecidableEq, Inhabited
def eS_At_Old_New (x : S_At_Old_New) : PV := (.agg [(.s (.int .i64 x.f0_At)), (.sl 1 ByteArray eS x.f1_Old), (.sl 1 ByteArray eS x.f2_New)])
def ti2 : TI := ⟨1, 8, .int .i64, [.s (.int .i64 0)]⟩
def ti3 : TI := ⟨1, 8, .int .i64, [.s (.int .i64 0)]⟩
def ti4 : TI := ⟨1, 1, .bl, [.s (.bool false)]⟩
def ti5 : TI := ⟨1, 1, .int .u8, [.s (.int .u8 0)]⟩
def ti6 : TI := ⟨1, 1, .int .u8, [.s (.int .u8 0)]⟩
def ti7 : TI := ⟨4, 24, .st [(0, 2), (1, 3), (2, 4), (3, 6)], [.s (.int .i64 0), .s (.int .i64 0), .s (.bool false), .s (.int .u8 0)]⟩
def ti8 : TI := ⟨4, 24, .st [(0, 2), (1, 3), (2, 4), (3, 6)], [.s (.int .i64 0), .s (.int .i64 0), .s (.bool false), .s (.int .u8 0)]⟩
def ti9 : TI := ⟨1, 16, .str, [.s (.string ⟨#[]⟩)]⟩
def ti10 : TI := ⟨1, 16, .str, [.s (.string ⟨#[]⟩)]⟩
def ti11 : TI := ⟨1, 16, .str, [.s (.string ⟨#[]⟩)]⟩
def ti12 : TI := ⟨1, 8, .int .u64, [.s (.int .u64 0)]⟩
def ti13 : TI := ⟨2, 24, .st [(0, 9), (1, 12)], [.s (.string ⟨#[]⟩), .s (.int .u64 0)]⟩
def ti14 : TI := ⟨2, 24, .st [(0, 9), (1, 12)], [.s (.string ⟨#[]⟩), .s (.int .u64 0)]⟩
def ti15 : TI := ⟨1, 8, .ot, [.s (.pointer none)]⟩
def ti16 : TI := ⟨1, 8, .ot, [.s (.pointer none)]⟩
def ti17 : TI := ⟨1, 8, .ot, [.s (.pointer none)]⟩
def ti18 : TI := ⟨1, 8, .st [(0, 17)], [.s (.pointer none)]⟩
def ti19 : TI := ⟨1, 8, .st [(0, 17)], [.s (.pointer none)]⟩
def ti21 : TI := ⟨1, 4, .int .i32, [.s (.int .i32 0)]⟩
def ti22 : TI := ⟨1, 24, .sl 9, [.sl 1 ByteArray eS []]⟩
def ti23 : TI := ⟨3, 56, .st [(0, 3), (1, 22), (2, 22)], [.s (.int .i64 0), .sl 1 ByteArray eS [], .sl 1 ByteArray eS []]⟩
def ti24 : TI := ⟨3, 56, .st [(0, 3), (1, 22), (2, 22)], [.s (.int .i64 0), .sl 1 ByteArray eS [], .sl 1 ByteArray eS []]⟩
def ti27 : TI := ⟨1, 8, .int .i64, [.s (.int .i64 0)]⟩
def ti32 : TI := ⟨3, 56, .st [(0, 3), (1, 22), (2, 22)], [.s (.int .i64 0), .sl 1 ByteArray eS [], .sl 1 ByteArray eS []]⟩
def ti45 : TI := ⟨1, 24, .sl 24, [.sl 3 S_At_Old_New eS_At_Old_New []]⟩
def ti50 : TI := ⟨1, 24, .sl 22, [.sl 1 (List ByteArray) (eL 1 eS) []]⟩
def ti59 : TI := ⟨1, 8, .ot, [.s .nilFunc]⟩
def ti67 : TI := ⟨1, 8, .int .u64, [.s (.int .u64 0)]⟩
def ti68 : TI := ⟨1, 4, .int .u32, [.s (.int .u32 0)]⟩
def ti72 : TI := ⟨4, 40, .st [(0, 17), (1, 17), (2, 17), (3, 9)], [.s (.pointer none), .s (.pointer none), .s (.pointer none), .s (.string ⟨#[]⟩)]⟩
def ti73 : TI := ⟨4, 40, .st [(0, 17), (1, 17), (2, 17), (3, 9)], [.s (.pointer none), .s (.pointer none), .s (.pointer none), .s (.string ⟨#[]⟩)]⟩
def ti78 : TI := ⟨1, 1, .int .u8, [.s (.int .u8 0)]⟩
def ti79 : TI := ⟨1, 1, .int .u8, [.s (.int .u8 0)]⟩
def ti81 : TI := ⟨1, 8, .ot, [.s (.pointer none)]⟩
def ti82 : TI := ⟨1, 4, .int .i32, [.s (.int .i32 0)]⟩
def ti83 : TI := ⟨1, 4, .int .i32, [.s (.int .i32 0)]⟩
def ti84 : TI := ⟨11, 48, .st [(0, 12), (1, 12), (2, 68), (3, 78), (4, 5), (5, 5), (6, 79), (7, 80), (8, 81), (9, 82), (10, 83)], [.s (.int .u64 0), .s (.int .u64 0), .s (.int .u32 0), .s (.int .u8 0), .s (.int .u8 0), .s (.int .u8 0), .s (.int .u8 0), .s .nilFunc, .s (.pointer none), .s (.int .i32 0), .s (.int .i32 0)]⟩
def ti85 : TI := ⟨11, 48, .st [(0, 12), (1, 12), (2, 68), (3, 78), (4, 5), (5, 5), (6, 79), (7, 80), (8, 81), (9, 82), (10, 83)], [.s (.int .u64 0), .s (.int .u64 0), .s (.int .u32 0), .s (.int .u8 0), .s (.int .u8 0), .s (.int .u8 0), .s (.int .u8 0), .s .nilFunc, .s (.pointer none), .s (.int .i32 0), .s (.int .i32 0)]⟩
def ti86 : TI := ⟨1, 8, .ot, [.s (.pointer none)]⟩
def tl : List (Nat × TI) := [(2, ti2), (3, ti3), (4, ti4), (5, ti5), (6, ti6), (7, ti7), (8, ti8), (9, ti9), (10, ti10), (11, ti11), (12, ti12), (13, ti13), (14, ti14), (15, ti15), (16, ti16), (17, ti17), (18, ti18), (19, ti19), (21, ti21), (22, ti22), (23, ti23), (24, ti24), (27, ti27), (32, ti32), (45, ti45), (50, ti50), (59, ti59), (67, ti67), (68, ti68), (72, ti72), (73, ti73), (78, ti78), (79, ti79), (81, ti81), (82, ti82), (83, ti83), (84, ti84), (85, ti85), (86, ti86)]
abbrev T : Tab := tab tl
theorem T_ok : TOk Try.prog T := TOk.of (l := tl)
  ⟨⟨by kernel_rfl, by kernel_rfl, by kernel_rfl, by kernel_rfl, by kernel_rfl⟩,
   ⟨by kernel_rfl, by kernel_rfl, by kernel_rfl, by kernel_rfl, by kernel_rfl⟩,
   ⟨by kernel_rfl, by kernel_rfl, by kernel_rfl, by kernel_rfl, by kernel_rfl⟩,
   ⟨by kernel_rfl, by kernel_rfl, by kernel_rfl, by kernel_rfl, by kernel_rfl⟩,
   ⟨by kernel_rfl, by kernel_rfl, by kernel_rfl, by kernel_rfl, by kernel_rfl⟩,
   ⟨by kernel_rfl, by kernel_rfl, by kernel_rfl, by kernel_rfl, by kernel_rfl⟩,
   ⟨by kernel_rfl, by kernel_rfl, by kernel_rfl, by kernel_rfl, by kernel_rfl⟩,
   ⟨by kernel_rfl, by kernel_rfl, by kernel_rfl, by kernel_rfl, by kernel_rfl⟩,
   ⟨by kernel_rfl, by kernel_rfl, by kernel_rfl, by kernel_rfl, by kernel_rfl⟩,
   ⟨by kernel_rfl, by kernel_rfl, by kernel_rfl, by kernel_rfl, by kernel_rfl⟩,
   ⟨by kernel_rfl, by kernel_rfl, by kernel_rfl, by kernel_rfl, by kernel_rfl⟩,
   ⟨by kernel_rfl, by kernel_rfl, by kernel_rfl, by kernel_rfl, by kernel_rfl⟩,
   ⟨by kernel_rfl, by kernel_rfl, by kernel_rfl, by kernel_rfl, by kernel_rfl⟩,
   ⟨by kernel_rfl, by kernel_rfl, by kernel_rfl, by kernel_rfl, by kernel_rfl⟩,
   ⟨by kernel_rfl, by kernel_rfl, by kernel_rfl, by kernel_rfl, by kernel_rfl⟩,
   ⟨by kernel_rfl, by kernel_rfl, by kernel_rfl, by kernel_rfl, by kernel_rfl⟩,
   ⟨by kernel_rfl, by kernel_rfl, by kernel_rfl, by kernel_rfl, by kernel_rfl⟩,
   ⟨by kernel_rfl, by kernel_rfl, by kernel_rfl, by kernel_rfl, by kernel_rfl⟩,
   ⟨by kernel_rfl, by kernel_rfl, by kernel_rfl, by kernel_rfl, by kernel_rfl⟩,
   ⟨by kernel_rfl, by kernel_rfl, by kernel_rfl, by kernel_rfl, by kernel_rfl⟩,
   ⟨by kernel_rfl, by kernel_rfl, by kernel_rfl, by kernel_rfl, by kernel_rfl⟩,
   ⟨by kernel_rfl, by kernel_rfl, by kernel_rfl, by kernel_rfl, by kernel_rfl⟩,
   ⟨by kernel_rfl, by kernel_rfl, by kernel_rfl, by kernel_rfl, by kernel_rfl⟩,
   ⟨by kernel_rfl, by kernel_rfl, by kernel_rfl, by kernel_rfl, by kernel_rfl⟩,
   ⟨by kernel_rfl, by kernel_rfl, by kernel_rfl, by kernel_rfl, by kernel_rfl⟩,
   ⟨by kernel_rfl, by kernel_rfl, by kernel_rfl, by kernel_rfl, by kernel_rfl⟩,
   ⟨by kernel_rfl, by kernel_rfl, by kernel_rfl, by kernel_rfl, by kernel_rfl⟩,
   ⟨by kernel_rfl, by kernel_rfl, by kernel_rfl, by kernel_rfl, by kernel_rfl⟩,
   ⟨by kernel_rfl, by kernel_rfl, by kernel_rfl, by kernel_rfl, by kernel_rfl⟩,
   ⟨by kernel_rfl, by kernel_rfl, by kernel_rfl, by kernel_rfl, by kernel_rfl⟩,
   ⟨by kernel_rfl, by kernel_rfl, by kernel_rfl, by kernel_rfl, by kernel_rfl⟩,
   ⟨by kernel_rfl, by kernel_rfl, by kernel_rfl, by kernel_rfl, by kernel_rfl⟩,
   ⟨by kernel_rfl, by kernel_rfl, by kernel_rfl, by kernel_rfl, by kernel_rfl⟩,
   ⟨by kernel_rfl, by kernel_rfl, by kernel_rfl, by kernel_rfl, by kernel_rfl⟩,
   ⟨by kernel_rfl, by kernel_rfl, by kernel_rfl, by kernel_rfl, by kernel_rfl⟩,
   ⟨by kernel_rfl, by kernel_rfl, by kernel_rfl, by kernel_rfl, by kernel_rfl⟩,
   ⟨by kernel_rfl, by kernel_rfl, by kernel_rfl, by kernel_rfl, by kernel_rfl⟩,
   ⟨by kernel_rfl, by kernel_rfl, by kernel_rfl, by kernel_rfl, by kernel_rfl⟩,
   ⟨by kernel_rfl, by kernel_rfl, by kernel_rfl, by kernel_rfl, by kernel_rfl⟩, trivial⟩
end Go.Proofs.Ytngcfmnmjkncoaa.Q
