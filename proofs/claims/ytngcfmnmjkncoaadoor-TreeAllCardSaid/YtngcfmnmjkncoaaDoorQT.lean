/- The types of the program's functions as Lean's, and what is asked of each; no condition but the typed premises. -/
import Derived.Test.YtngcfmnmjkncoaaDoorProg
import Derived.Test.YtngcfmnmjkncoaaDoorQF3
namespace Go.Proofs.YtngcfmnmjkncoaaDoor.Q
open Go
/-- quitclaim/api.Op -/
structure S_Op where
  f0_Kind : Int
  f1_Path : ByteArray
  f2_To : ByteArray
  f3_At : Int
  f4_Old : List ByteArray
  f5_New : List ByteArray
  f6_Key : List Int
  f7_Depth : Int
  deriving DecidableEq, Inhabited
def eS_Op (x : S_Op) : PV := (.agg [(.s (.int .i64 x.f0_Kind)), (.s (.string x.f1_Path)), (.s (.string x.f2_To)), (.s (.int .i64 x.f3_At)), (.sl 1 ByteArray eS x.f4_Old), (.sl 1 ByteArray eS x.f5_New), (.s (.int .u8 (x.f6_Key.getD 0 0))), (.s (.int .u8 (x.f6_Key.getD 1 0))), (.s (.int .u8 (x.f6_Key.getD 2 0))), (.s (.int .u8 (x.f6_Key.getD 3 0))), (.s (.int .u8 (x.f6_Key.getD 4 0))), (.s (.int .u8 (x.f6_Key.getD 5 0))), (.s (.int .u8 (x.f6_Key.getD 6 0))), (.s (.int .u8 (x.f6_Key.getD 7 0))), (.s (.int .u8 (x.f6_Key.getD 8 0))), (.s (.int .u8 (x.f6_Key.getD 9 0))), (.s (.int .u8 (x.f6_Key.getD 10 0))), (.s (.int .u8 (x.f6_Key.getD 11 0))), (.s (.int .u8 (x.f6_Key.getD 12 0))), (.s (.int .u8 (x.f6_Key.getD 13 0))), (.s (.int .u8 (x.f6_Key.getD 14 0))), (.s (.int .u8 (x.f6_Key.getD 15 0))), (.s (.int .u8 (x.f6_Key.getD 16 0))), (.s (.int .u8 (x.f6_Key.getD 17 0))), (.s (.int .u8 (x.f6_Key.getD 18 0))), (.s (.int .u8 (x.f6_Key.getD 19 0))), (.s (.int .u8 (x.f6_Key.getD 20 0))), (.s (.int .u8 (x.f6_Key.getD 21 0))), (.s (.int .u8 (x.f6_Key.getD 22 0))), (.s (.int .u8 (x.f6_Key.getD 23 0))), (.s (.int .u8 (x.f6_Key.getD 24 0))), (.s (.int .u8 (x.f6_Key.getD 25 0))), (.s (.int .u8 (x.f6_Key.getD 26 0))), (.s (.int .u8 (x.f6_Key.getD 27 0))), (.s (.int .u8 (x.f6_Key.getD 28 0))), (.s (.int .u8 (x.f6_Key.getD 29 0))), (.s (.int .u8 (x.f6_Key.getD 30 0))), (.s (.int .u8 (x.f6_Key.getD 31 0))), (.s (.int .i64 x.f7_Depth))])
/-- quitclaim/tree.File -/
structure S_F where
  f0_Path : ByteArray
  f1_Lines : List ByteArray
  deriving DecidableEq, Inhabited
def eS_F (x : S_F) : PV := (.agg [(.s (.string x.f0_Path)), (.sl 1 ByteArray eS x.f1_Lines)])
/-- quitclaim/tree.Tree -/
structure S_files where
  f0_files : List S_F
  deriving DecidableEq, Inhabited
def eS_files (x : S_files) : PV := (.agg [(.sl 2 S_F eS_F x.f0_files)])
/-- quitclaim/hunk.Hunk -/
structure S_At_Old_New where
  f0_At : Int
  f1_Old : List ByteArray
  f2_New : List ByteArray
  deriving DecidableEq, Inhabited
def eS_At_Old_New (x : S_At_Old_New) : PV := (.agg [(.s (.int .i64 x.f0_At)), (.sl 1 ByteArray eS x.f1_Old), (.sl 1 ByteArray eS x.f2_New)])
def ti2 : TI := ⟨1, 8, .int .i64, [.s (.int .i64 0)]⟩
def ti3 : TI := ⟨1, 8, .int .i64, [.s (.int .i64 0)]⟩
def ti4 : TI := ⟨1, 1, .bl, [.s (.bool false)]⟩
def ti5 : TI := ⟨1, 1, .int .u8, [.s (.int .u8 0)]⟩
def ti6 : TI := ⟨1, 1, .int .u8, [.s (.int .u8 0)]⟩
def ti7 : TI := ⟨4, 24, .st [(0, 2), (1, 3), (2, 4), (3, 6)], [.s (.int .i64 0), .s (.int .i64 0), .s (.bool false), .s (.int .u8 0)]⟩
def ti8 : TI := ⟨4, 24, .st [(0, 2), (1, 3), (2, 4), (3, 6)], [.s (.int .i64 0), .s (.int .i64 0), .s (.bool false), .s (.int .u8 0)]⟩
def ti9 : TI := ⟨1, 16, .str, [.s (.string ⟨#[]⟩)]⟩
def ti10 : TI := ⟨1, 16, .str, [.s (.string ⟨#[]⟩)]⟩
def ti11 : TI := ⟨1, 16, .str, [.s (.string ⟨#[]⟩)]⟩
def ti12 : TI := ⟨1, 8, .int .u64, [.s (.int .u64 0)]⟩
def ti13 : TI := ⟨2, 24, .st [(0, 9), (1, 12)], [.s (.string ⟨#[]⟩), .s (.int .u64 0)]⟩
def ti14 : TI := ⟨2, 24, .st [(0, 9), (1, 12)], [.s (.string ⟨#[]⟩), .s (.int .u64 0)]⟩
def ti15 : TI := ⟨1, 8, .ot, [.s (.pointer none)]⟩
def ti16 : TI := ⟨1, 8, .ot, [.s (.pointer none)]⟩
def ti17 : TI := ⟨1, 8, .ot, [.s (.pointer none)]⟩
def ti18 : TI := ⟨1, 8, .st [(0, 17)], [.s (.pointer none)]⟩
def ti19 : TI := ⟨1, 8, .st [(0, 17)], [.s (.pointer none)]⟩
def ti21 : TI := ⟨1, 4, .int .i32, [.s (.int .i32 0)]⟩
def ti22 : TI := ⟨1, 24, .sl 9, [.sl 1 ByteArray eS []]⟩
def ti34 : TI := ⟨1, 8, .int .i64, [.s (.int .i64 0)]⟩
def ti42 : TI := ⟨1, 24, .sl 57, [.sl 39 S_Op eS_Op []]⟩
def ti44 : TI := ⟨1, 24, .sl 62, [.sl 2 S_F eS_F []]⟩
def ti45 : TI := ⟨1, 24, .st [(0, 44)], [.sl 2 S_F eS_F []]⟩
def ti46 : TI := ⟨1, 24, .st [(0, 44)], [.sl 2 S_F eS_F []]⟩
def ti49 : TI := ⟨1, 24, .sl 96, [.sl 2 S_F eS_F []]⟩
def ti54 : TI := ⟨32, 32, .ar 32 5, [.s (.int .u8 0), .s (.int .u8 0), .s (.int .u8 0), .s (.int .u8 0), .s (.int .u8 0), .s (.int .u8 0), .s (.int .u8 0), .s (.int .u8 0), .s (.int .u8 0), .s (.int .u8 0), .s (.int .u8 0), .s (.int .u8 0), .s (.int .u8 0), .s (.int .u8 0), .s (.int .u8 0), .s (.int .u8 0), .s (.int .u8 0), .s (.int .u8 0), .s (.int .u8 0), .s (.int .u8 0), .s (.int .u8 0), .s (.int .u8 0), .s (.int .u8 0), .s (.int .u8 0), .s (.int .u8 0), .s (.int .u8 0), .s (.int .u8 0), .s (.int .u8 0), .s (.int .u8 0), .s (.int .u8 0), .s (.int .u8 0), .s (.int .u8 0)]⟩
def ti55 : TI := ⟨32, 32, .ar 32 5, [.s (.int .u8 0), .s (.int .u8 0), .s (.int .u8 0), .s (.int .u8 0), .s (.int .u8 0), .s (.int .u8 0), .s (.int .u8 0), .s (.int .u8 0), .s (.int .u8 0), .s (.int .u8 0), .s (.int .u8 0), .s (.int .u8 0), .s (.int .u8 0), .s (.int .u8 0), .s (.int .u8 0), .s (.int .u8 0), .s (.int .u8 0), .s (.int .u8 0), .s (.int .u8 0), .s (.int .u8 0), .s (.int .u8 0), .s (.int .u8 0), .s (.int .u8 0), .s (.int .u8 0), .s (.int .u8 0), .s (.int .u8 0), .s (.int .u8 0), .s (.int .u8 0), .s (.int .u8 0), .s (.int .u8 0), .s (.int .u8 0), .s (.int .u8 0)]⟩
def ti56 : TI := ⟨39, 136, .st [(0, 3), (1, 9), (2, 9), (3, 3), (4, 22), (5, 22), (6, 55), (38, 3)], [.s (.int .i64 0), .s (.string ⟨#[]⟩), .s (.string ⟨#[]⟩), .s (.int .i64 0), .sl 1 ByteArray eS [], .sl 1 ByteArray eS [], .s (.int .u8 0), .s (.int .u8 0), .s (.int .u8 0), .s (.int .u8 0), .s (.int .u8 0), .s (.int .u8 0), .s (.int .u8 0), .s (.int .u8 0), .s (.int .u8 0), .s (.int .u8 0), .s (.int .u8 0), .s (.int .u8 0), .s (.int .u8 0), .s (.int .u8 0), .s (.int .u8 0), .s (.int .u8 0), .s (.int .u8 0), .s (.int .u8 0), .s (.int .u8 0), .s (.int .u8 0), .s (.int .u8 0), .s (.int .u8 0), .s (.int .u8 0), .s (.int .u8 0), .s (.int .u8 0), .s (.int .u8 0), .s (.int .u8 0), .s (.int .u8 0), .s (.int .u8 0), .s (.int .u8 0), .s (.int .u8 0), .s (.int .u8 0), .s (.int .i64 0)]⟩
def ti57 : TI := ⟨39, 136, .st [(0, 3), (1, 9), (2, 9), (3, 3), (4, 22), (5, 22), (6, 55), (38, 3)], [.s (.int .i64 0), .s (.string ⟨#[]⟩), .s (.string ⟨#[]⟩), .s (.int .i64 0), .sl 1 ByteArray eS [], .sl 1 ByteArray eS [], .s (.int .u8 0), .s (.int .u8 0), .s (.int .u8 0), .s (.int .u8 0), .s (.int .u8 0), .s (.int .u8 0), .s (.int .u8 0), .s (.int .u8 0), .s (.int .u8 0), .s (.int .u8 0), .s (.int .u8 0), .s (.int .u8 0), .s (.int .u8 0), .s (.int .u8 0), .s (.int .u8 0), .s (.int .u8 0), .s (.int .u8 0), .s (.int .u8 0), .s (.int .u8 0), .s (.int .u8 0), .s (.int .u8 0), .s (.int .u8 0), .s (.int .u8 0), .s (.int .u8 0), .s (.int .u8 0), .s (.int .u8 0), .s (.int .u8 0), .s (.int .u8 0), .s (.int .u8 0), .s (.int .u8 0), .s (.int .u8 0), .s (.int .u8 0), .s (.int .i64 0)]⟩
def ti60 : TI := ⟨1, 24, .sl 44, [.sl 1 (List S_F) (eL 2 eS_F) []]⟩
def ti61 : TI := ⟨2, 40, .st [(0, 9), (1, 22)], [.s (.string ⟨#[]⟩), .sl 1 ByteArray eS []]⟩
def ti62 : TI := ⟨2, 40, .st [(0, 9), (1, 22)], [.s (.string ⟨#[]⟩), .sl 1 ByteArray eS []]⟩
def ti72 : TI := ⟨1, 8, .ot, [.s .nilFunc]⟩
def ti77 : TI := ⟨1, 24, .sl 22, [.sl 1 (List ByteArray) (eL 1 eS) []]⟩
def ti79 : TI := ⟨3, 56, .st [(0, 3), (1, 22), (2, 22)], [.s (.int .i64 0), .sl 1 ByteArray eS [], .sl 1 ByteArray eS []]⟩
def ti80 : TI := ⟨3, 56, .st [(0, 3), (1, 22), (2, 22)], [.s (.int .i64 0), .sl 1 ByteArray eS [], .sl 1 ByteArray eS []]⟩
def ti83 : TI := ⟨1, 8, .ot, [.s (.pointer none)]⟩
def ti84 : TI := ⟨1, 24, .sl 5, [.sl 1 Int (eI .u8) []]⟩
def ti85 : TI := ⟨2, 32, .st [(0, 83), (1, 84)], [.s (.pointer none), .sl 1 Int (eI .u8) []]⟩
def ti86 : TI := ⟨2, 32, .st [(0, 83), (1, 84)], [.s (.pointer none), .sl 1 Int (eI .u8) []]⟩
def ti88 : TI := ⟨1, 16, .ot, [.s .nilIface]⟩
def ti96 : TI := ⟨2, 40, .st [(0, 9), (1, 22)], [.s (.string ⟨#[]⟩), .sl 1 ByteArray eS []]⟩
def ti107 : TI := ⟨1, 24, .sl 80, [.sl 3 S_At_Old_New eS_At_Old_New []]⟩
def ti118 : TI := ⟨1, 8, .ot, [.s (.pointer none)]⟩
def ti127 : TI := ⟨3, 56, .st [(0, 3), (1, 22), (2, 22)], [.s (.int .i64 0), .sl 1 ByteArray eS [], .sl 1 ByteArray eS []]⟩
def ti132 : TI := ⟨1, 24, .sl 136, [.sl 1 (List Int) (eL 1 (eI .i64)) []]⟩
def ti134 : TI := ⟨1, 8, .ot, [.s (.pointer none)]⟩
def ti136 : TI := ⟨1, 24, .sl 3, [.sl 1 Int (eI .i64) []]⟩
def ti142 : TI := ⟨1, 8, .ot, [.s (.pointer none)]⟩
def ti149 : TI := ⟨1, 8, .int .u64, [.s (.int .u64 0)]⟩
def ti154 : TI := ⟨6, 6, .ar 6 4, [.s (.bool false), .s (.bool false), .s (.bool false), .s (.bool false), .s (.bool false), .s (.bool false)]⟩
def ti156 : TI := ⟨2, 2, .st [(0, 5), (1, 5)], [.s (.int .u8 0), .s (.int .u8 0)]⟩
def ti157 : TI := ⟨2, 2, .st [(0, 5), (1, 5)], [.s (.int .u8 0), .s (.int .u8 0)]⟩
def ti158 : TI := ⟨32, 32, .ar 16 157, [.s (.int .u8 0), .s (.int .u8 0), .s (.int .u8 0), .s (.int .u8 0), .s (.int .u8 0), .s (.int .u8 0), .s (.int .u8 0), .s (.int .u8 0), .s (.int .u8 0), .s (.int .u8 0), .s (.int .u8 0), .s (.int .u8 0), .s (.int .u8 0), .s (.int .u8 0), .s (.int .u8 0), .s (.int .u8 0), .s (.int .u8 0), .s (.int .u8 0), .s (.int .u8 0), .s (.int .u8 0), .s (.int .u8 0), .s (.int .u8 0), .s (.int .u8 0), .s (.int .u8 0), .s (.int .u8 0), .s (.int .u8 0), .s (.int .u8 0), .s (.int .u8 0), .s (.int .u8 0), .s (.int .u8 0), .s (.int .u8 0), .s (.int .u8 0)]⟩
def ti161 : TI := ⟨1, 4, .int .u32, [.s (.int .u32 0)]⟩
def ti164 : TI := ⟨4, 40, .st [(0, 17), (1, 17), (2, 17), (3, 9)], [.s (.pointer none), .s (.pointer none), .s (.pointer none), .s (.string ⟨#[]⟩)]⟩
def ti165 : TI := ⟨4, 40, .st [(0, 17), (1, 17), (2, 17), (3, 9)], [.s (.pointer none), .s (.pointer none), .s (.pointer none), .s (.string ⟨#[]⟩)]⟩
def ti169 : TI := ⟨1, 1, .int .u8, [.s (.int .u8 0)]⟩
def ti170 : TI := ⟨1, 1, .int .u8, [.s (.int .u8 0)]⟩
def ti172 : TI := ⟨1, 4, .int .i32, [.s (.int .i32 0)]⟩
def ti173 : TI := ⟨1, 4, .int .i32, [.s (.int .i32 0)]⟩
def ti174 : TI := ⟨11, 48, .st [(0, 12), (1, 12), (2, 161), (3, 169), (4, 5), (5, 5), (6, 170), (7, 171), (8, 118), (9, 172), (10, 173)], [.s (.int .u64 0), .s (.int .u64 0), .s (.int .u32 0), .s (.int .u8 0), .s (.int .u8 0), .s (.int .u8 0), .s (.int .u8 0), .s .nilFunc, .s (.pointer none), .s (.int .i32 0), .s (.int .i32 0)]⟩
def ti175 : TI := ⟨11, 48, .st [(0, 12), (1, 12), (2, 161), (3, 169), (4, 5), (5, 5), (6, 170), (7, 171), (8, 118), (9, 172), (10, 173)], [.s (.int .u64 0), .s (.int .u64 0), .s (.int .u32 0), .s (.int .u8 0), .s (.int .u8 0), .s (.int .u8 0), .s (.int .u8 0), .s .nilFunc, .s (.pointer none), .s (.int .i32 0), .s (.int .i32 0)]⟩
def tl : List (Nat × TI) := [(2, ti2), (3, ti3), (4, ti4), (5, ti5), (6, ti6), (7, ti7), (8, ti8), (9, ti9), (10, ti10), (11, ti11), (12, ti12), (13, ti13), (14, ti14), (15, ti15), (16, ti16), (17, ti17), (18, ti18), (19, ti19), (21, ti21), (22, ti22), (34, ti34), (42, ti42), (44, ti44), (45, ti45), (46, ti46), (49, ti49), (54, ti54), (55, ti55), (56, ti56), (57, ti57), (60, ti60), (61, ti61), (62, ti62), (72, ti72), (77, ti77), (79, ti79), (80, ti80), (83, ti83), (84, ti84), (85, ti85), (86, ti86), (88, ti88), (96, ti96), (107, ti107), (118, ti118), (127, ti127), (132, ti132), (134, ti134), (136, ti136), (142, ti142), (149, ti149), (154, ti154), (156, ti156), (157, ti157), (158, ti158), (161, ti161), (164, ti164), (165, ti165), (169, ti169), (170, ti170), (172, ti172), (173, ti173), (174, ti174), (175, ti175)]
abbrev T : Tab := tab tl
theorem T_ok : TOk Tryd.prog T := TOk.of (l := tl)
  ⟨⟨by kernel_rfl, by kernel_rfl, by kernel_rfl, by kernel_rfl, by kernel_rfl⟩,
   ⟨by kernel_rfl, by kernel_rfl, by kernel_rfl, by kernel_rfl, by kernel_rfl⟩,
   ⟨by kernel_rfl, by kernel_rfl, by kernel_rfl, by kernel_rfl, by kernel_rfl⟩,
   ⟨by kernel_rfl, by kernel_rfl, by kernel_rfl, by kernel_rfl, by kernel_rfl⟩,
   ⟨by kernel_rfl, by kernel_rfl, by kernel_rfl, by kernel_rfl, by kernel_rfl⟩,
   ⟨by kernel_rfl, by kernel_rfl, by kernel_rfl, by kernel_rfl, by kernel_rfl⟩,
   ⟨by kernel_rfl, by kernel_rfl, by kernel_rfl, by kernel_rfl, by kernel_rfl⟩,
   ⟨by kernel_rfl, by kernel_rfl, by kernel_rfl, by kernel_rfl, by kernel_rfl⟩,
   ⟨by kernel_rfl, by kernel_rfl, by kernel_rfl, by kernel_rfl, by kernel_rfl⟩,
   ⟨by kernel_rfl, by kernel_rfl, by kernel_rfl, by kernel_rfl, by kernel_rfl⟩,
   ⟨by kernel_rfl, by kernel_rfl, by kernel_rfl, by kernel_rfl, by kernel_rfl⟩,
   ⟨by kernel_rfl, by kernel_rfl, by kernel_rfl, by kernel_rfl, by kernel_rfl⟩,
   ⟨by kernel_rfl, by kernel_rfl, by kernel_rfl, by kernel_rfl, by kernel_rfl⟩,
   ⟨by kernel_rfl, by kernel_rfl, by kernel_rfl, by kernel_rfl, by kernel_rfl⟩,
   ⟨by kernel_rfl, by kernel_rfl, by kernel_rfl, by kernel_rfl, by kernel_rfl⟩,
   ⟨by kernel_rfl, by kernel_rfl, by kernel_rfl, by kernel_rfl, by kernel_rfl⟩,
   ⟨by kernel_rfl, by kernel_rfl, by kernel_rfl, by kernel_rfl, by kernel_rfl⟩,
   ⟨by kernel_rfl, by kernel_rfl, by kernel_rfl, by kernel_rfl, by kernel_rfl⟩,
   ⟨by kernel_rfl, by kernel_rfl, by kernel_rfl, by kernel_rfl, by kernel_rfl⟩,
   ⟨by kernel_rfl, by kernel_rfl, by kernel_rfl, by kernel_rfl, by kernel_rfl⟩,
   ⟨by kernel_rfl, by kernel_rfl, by kernel_rfl, by kernel_rfl, by kernel_rfl⟩,
   ⟨by kernel_rfl, by kernel_rfl, by kernel_rfl, by kernel_rfl, by kernel_rfl⟩,
   ⟨by kernel_rfl, by kernel_rfl, by kernel_rfl, by kernel_rfl, by kernel_rfl⟩,
   ⟨by kernel_rfl, by kernel_rfl, by kernel_rfl, by kernel_rfl, by kernel_rfl⟩,
   ⟨by kernel_rfl, by kernel_rfl, by kernel_rfl, by kernel_rfl, by kernel_rfl⟩,
   ⟨by kernel_rfl, by kernel_rfl, by kernel_rfl, by kernel_rfl, by kernel_rfl⟩,
   ⟨by kernel_rfl, by kernel_rfl, by kernel_rfl, by kernel_rfl, by kernel_rfl⟩,
   ⟨by kernel_rfl, by kernel_rfl, by kernel_rfl, by kernel_rfl, by kernel_rfl⟩,
   ⟨by kernel_rfl, by kernel_rfl, by kernel_rfl, by kernel_rfl, by kernel_rfl⟩,
   ⟨by kernel_rfl, by kernel_rfl, by kernel_rfl, by kernel_rfl, by kernel_rfl⟩,
   ⟨by kernel_rfl, by kernel_rfl, by kernel_rfl, by kernel_rfl, by kernel_rfl⟩,
   ⟨by kernel_rfl, by kernel_rfl, by kernel_rfl, by kernel_rfl, by kernel_rfl⟩,
   ⟨by kernel_rfl, by kernel_rfl, by kernel_rfl, by kernel_rfl, by kernel_rfl⟩,
   ⟨by kernel_rfl, by kernel_rfl, by kernel_rfl, by kernel_rfl, by kernel_rfl⟩,
   ⟨by kernel_rfl, by kernel_rfl, by kernel_rfl, by kernel_rfl, by kernel_rfl⟩,
   ⟨by kernel_rfl, by kernel_rfl, by kernel_rfl, by kernel_rfl, by kernel_rfl⟩,
   ⟨by kernel_rfl, by kernel_rfl, by kernel_rfl, by kernel_rfl, by kernel_rfl⟩,
   ⟨by kernel_rfl, by kernel_rfl, by kernel_rfl, by kernel_rfl, by kernel_rfl⟩,
   ⟨by kernel_rfl, by kernel_rfl, by kernel_rfl, by kernel_rfl, by kernel_rfl⟩,
   ⟨by kernel_rfl, by kernel_rfl, by kernel_rfl, by kernel_rfl, by kernel_rfl⟩,
   ⟨by kernel_rfl, by kernel_rfl, by kernel_rfl, by kernel_rfl, by kernel_rfl⟩,
   ⟨by kernel_rfl, by kernel_rfl, by kernel_rfl, by kernel_rfl, by kernel_rfl⟩,
   ⟨by kernel_rfl, by kernel_rfl, by kernel_rfl, by kernel_rfl, by kernel_rfl⟩,
   ⟨by kernel_rfl, by kernel_rfl, by kernel_rfl, by kernel_rfl, by kernel_rfl⟩,
   ⟨by kernel_rfl, by kernel_rfl, by kernel_rfl, by kernel_rfl, by kernel_rfl⟩,
   ⟨by kernel_rfl, by kernel_rfl, by kernel_rfl, by kernel_rfl, by kernel_rfl⟩,
   ⟨by kernel_rfl, by kernel_rfl, by kernel_rfl, by kernel_rfl, by kernel_rfl⟩,
   ⟨by kernel_rfl, by kernel_rfl, by kernel_rfl, by kernel_rfl, by kernel_rfl⟩,
   ⟨by kernel_rfl, by kernel_rfl, by kernel_rfl, by kernel_rfl, by kernel_rfl⟩,
   ⟨by kernel_rfl, by kernel_rfl, by kernel_rfl, by kernel_rfl, by kernel_rfl⟩,
   ⟨by kernel_rfl, by kernel_rfl, by kernel_rfl, by kernel_rfl, by kernel_rfl⟩,
   ⟨by kernel_rfl, by kernel_rfl, by kernel_rfl, by kernel_rfl, by kernel_rfl⟩,
   ⟨by kernel_rfl, by kernel_rfl, by kernel_rfl, by kernel_rfl, by kernel_rfl⟩,
   ⟨by kernel_rfl, by kernel_rfl, by kernel_rfl, by kernel_rfl, by kernel_rfl⟩,
   ⟨by kernel_rfl, by kernel_rfl, by kernel_rfl, by kernel_rfl, by kernel_rfl⟩,
   ⟨by kernel_rfl, by kernel_rfl, by kernel_rfl, by kernel_rfl, by kernel_rfl⟩,
   ⟨by kernel_rfl, by kernel_rfl, by kernel_rfl, by kernel_rfl, by kernel_rfl⟩,
   ⟨by kernel_rfl, by kernel_rfl, by kernel_rfl, by kernel_rfl, by kernel_rfl⟩,
   ⟨by kernel_rfl, by kernel_rfl, by kernel_rfl, by kernel_rfl, by kernel_rfl⟩,
   ⟨by kernel_rfl, by kernel_rfl, by kernel_rfl, by kernel_rfl, by kernel_rfl⟩,
   ⟨by kernel_rfl, by kernel_rfl, by kernel_rfl, by kernel_rfl, by kernel_rfl⟩,
   ⟨by kernel_rfl, by kernel_rfl, by kernel_rfl, by kernel_rfl, by kernel_rfl⟩,
   ⟨by kernel_rfl, by kernel_rfl, by kernel_rfl, by kernel_rfl, by kernel_rfl⟩,
   ⟨by kernel_rfl, by kernel_rfl, by kernel_rfl, by kernel_rfl, by kernel_rfl⟩, trivial⟩
end Go.Proofs.YtngcfmnmjkncoaaDoor.Q
