/- The types of the program's functions as codes, what is asked of each, and what is said beside each function's code; no condition but the typed premises. -/
import Derived.Test.YtmjkflppajienaaDoorProg
import Derived.Test.YtmjkflppajienaaDoorRY
import Derived.KernelRfl
namespace Go.Proofs.YtmjkflppajienaaDoor.R
open Go
set_option maxRecDepth 100000
abbrev c7 : Ty := .pr (.i .i64) (.pr (.i .i64) (.pr .b (.pr (.i .u8) .un)))
abbrev c13 : Ty := .pr .s (.pr (.i .u64) .un)
abbrev c61 : Ty := .pr .s (.pr (.sl 1 .s) .un)
abbrev c24 : Ty := .pr (.sl 2 c61) .un
abbrev c44 : Ty := .pr (.i .i64) (.pr .s (.pr .s (.pr (.i .i64) (.pr (.sl 1 .s) (.pr (.sl 1 .s) (.pr (.ar 32 (.i .u8)) (.pr (.i .i64) .un)))))))
abbrev c99 : Ty := .pr .s (.pr (.i .i64) (.pr (.i .i64) .un))
abbrev c66 : Ty := .pr .s (.pr (.i .i64) (.pr (.i .i64) .un))
abbrev c78 : Ty := .pr (.sl 1 (.i .u8)) .un
abbrev c91 : Ty := .pr (.i .i64) (.pr (.sl 1 .s) (.pr (.sl 1 .s) .un))
abbrev c179 : Ty := .pr .s (.pr .s (.pr .er .un))
abbrev c190 : Ty := .pr .s .un
abbrev c193 : Ty := .pr (.i .u8) (.pr (.i .u8) .un)
/-- runtime.boundsError: x, y, signed, code -/
abbrev S7 : Type := Int × Int × Bool × Int × Unit
/-- runtime.errorAddressString: msg, addr -/
abbrev S13 : Type := ByteArray × Int × Unit
/-- quitclaim/tree.File: Path, Lines -/
abbrev S61 : Type := ByteArray × List ByteArray × Unit
/-- quitclaim/tree.Tree: files -/
abbrev S24 : Type := List S61 × Unit
/-- quitclaim/api.Op: Kind, Path, To, At, Old, New, Key, Depth -/
abbrev S44 : Type := Int × ByteArray × ByteArray × Int × List ByteArray × List ByteArray × Vec Int 32 × Int × Unit
/-- quitclaim/pack.Reader: s, at, e -/
abbrev S99 : Type := ByteArray × Int × Int × Unit
/-- quitclaim/quitclaimref05.Reader: S, At, E -/
abbrev S66 : Type := ByteArray × Int × Int × Unit
/-- quitclaim/pack.Writer: b -/
abbrev S78 : Type := List Int × Unit
/-- quitclaim/quitclaimref11.Hunk: At, Old, New -/
abbrev S91 : Type := Int × List ByteArray × List ByteArray × Unit
/-- strconv.NumError: Func, Num, Err -/
abbrev S179 : Type := ByteArray × ByteArray × Bool × Unit
/-- errors.errorString: s -/
abbrev S190 : Type := ByteArray × Unit
/-- unicode/utf8.acceptRange: lo, hi -/
abbrev S193 : Type := Int × Int × Unit
def ti1 : TI := ⟨1, 8, .ot, [.s .nilFunc], none⟩
def ti2 : TI := ⟨1, 8, .int .i64, (Ty.enc (.i .i64) (Ty.dflt (.i .i64))).cells, some (.i .i64)⟩
def ti3 : TI := ⟨1, 8, .int .i64, (Ty.enc (.i .i64) (Ty.dflt (.i .i64))).cells, some (.i .i64)⟩
def ti4 : TI := ⟨1, 1, .bl, (Ty.enc .b (Ty.dflt .b)).cells, some .b⟩
def ti5 : TI := ⟨1, 1, .int .u8, (Ty.enc (.i .u8) (Ty.dflt (.i .u8))).cells, some (.i .u8)⟩
def ti6 : TI := ⟨1, 1, .int .u8, (Ty.enc (.i .u8) (Ty.dflt (.i .u8))).cells, some (.i .u8)⟩
def ti7 : TI := ⟨4, 24, .st [(0, 2), (1, 3), (2, 4), (3, 6)], ((Ty.enc (.i .i64) (Ty.dflt (.i .i64))).cells ++ (Ty.enc (.i .i64) (Ty.dflt (.i .i64))).cells ++ (Ty.enc .b (Ty.dflt .b)).cells ++ (Ty.enc (.i .u8) (Ty.dflt (.i .u8))).cells), some c7⟩
def ti8 : TI := ⟨4, 24, .st [(0, 2), (1, 3), (2, 4), (3, 6)], ((Ty.enc (.i .i64) (Ty.dflt (.i .i64))).cells ++ (Ty.enc (.i .i64) (Ty.dflt (.i .i64))).cells ++ (Ty.enc .b (Ty.dflt .b)).cells ++ (Ty.enc (.i .u8) (Ty.dflt (.i .u8))).cells), some c7⟩
def ti9 : TI := ⟨1, 16, .str, (Ty.enc .s (Ty.dflt .s)).cells, some .s⟩
def ti10 : TI := ⟨1, 16, .str, (Ty.enc .s (Ty.dflt .s)).cells, some .s⟩
def ti11 : TI := ⟨1, 16, .str, (Ty.enc .s (Ty.dflt .s)).cells, some .s⟩
def ti12 : TI := ⟨1, 8, .int .u64, (Ty.enc (.i .u64) (Ty.dflt (.i .u64))).cells, some (.i .u64)⟩
def ti13 : TI := ⟨2, 24, .st [(0, 9), (1, 12)], ((Ty.enc .s (Ty.dflt .s)).cells ++ (Ty.enc (.i .u64) (Ty.dflt (.i .u64))).cells), some c13⟩
def ti14 : TI := ⟨2, 24, .st [(0, 9), (1, 12)], ((Ty.enc .s (Ty.dflt .s)).cells ++ (Ty.enc (.i .u64) (Ty.dflt (.i .u64))).cells), some c13⟩
def ti15 : TI := ⟨1, 8, .ot, [.s (.pointer none)], none⟩
def ti16 : TI := ⟨1, 8, .ot, [.s (.pointer none)], none⟩
def ti17 : TI := ⟨1, 8, .ot, [.s (.pointer none)], none⟩
def ti18 : TI := ⟨1, 8, .st [(0, 17)], ([.s (.pointer none)]), none⟩
def ti19 : TI := ⟨1, 8, .st [(0, 17)], ([.s (.pointer none)]), none⟩
def ti20 : TI := ⟨1, 16, .ot, [.s .nilIface], none⟩
def ti21 : TI := ⟨1, 4, .int .i32, (Ty.enc (.i .i32) (Ty.dflt (.i .i32))).cells, some (.i .i32)⟩
def ti22 : TI := ⟨1, 8, .ot, [.s .nilFunc], none⟩
def ti23 : TI := ⟨1, 24, .sl 62, [.s (.slice none 0 0)], some (.sl 2 c61)⟩
def ti24 : TI := ⟨1, 24, .st [(0, 23)], ([.s (.slice none 0 0)]), some c24⟩
def ti25 : TI := ⟨1, 24, .st [(0, 23)], ([.s (.slice none 0 0)]), some c24⟩
def ti26 : TI := ⟨1, 8, .int .i64, (Ty.enc (.i .i64) (Ty.dflt (.i .i64))).cells, some (.i .i64)⟩
def ti28 : TI := ⟨1, 8, .ot, [.s .nilFunc], none⟩
def ti29 : TI := ⟨1, 24, .sl 74, [.s (.slice none 0 0)], some (.sl 2 c61)⟩
def ti31 : TI := ⟨1, 8, .ot, [.s .nilFunc], none⟩
def ti32 : TI := ⟨1, 8, .ot, [.s .nilFunc], none⟩
def ti33 : TI := ⟨1, 8, .ot, [.s .nilFunc], none⟩
def ti34 : TI := ⟨1, 8, .ot, [.s .nilFunc], none⟩
def ti35 : TI := ⟨1, 8, .ot, [.s .nilFunc], none⟩
def ti36 : TI := ⟨1, 24, .sl 45, [.s (.slice none 0 0)], some (.sl 39 c44)⟩
def ti37 : TI := ⟨1, 8, .ot, [.s .nilFunc], none⟩
def ti39 : TI := ⟨1, 8, .ot, [.s .nilFunc], none⟩
def ti40 : TI := ⟨1, 8, .ot, (Ty.enc (.mp .s .b) (Ty.dflt (.mp .s .b))).cells, some (.mp .s .b)⟩
def ti41 : TI := ⟨1, 24, .sl 9, [.s (.slice none 0 0)], some (.sl 1 .s)⟩
def ti42 : TI := ⟨32, 32, .ar 32 5, (Ty.enc (.ar 32 (.i .u8)) (Ty.dflt (.ar 32 (.i .u8)))).cells, some (.ar 32 (.i .u8))⟩
def ti43 : TI := ⟨32, 32, .ar 32 5, (Ty.enc (.ar 32 (.i .u8)) (Ty.dflt (.ar 32 (.i .u8)))).cells, some (.ar 32 (.i .u8))⟩
def ti44 : TI := ⟨39, 136, .st [(0, 3), (1, 9), (2, 9), (3, 3), (4, 41), (5, 41), (6, 43), (38, 3)], ((Ty.enc (.i .i64) (Ty.dflt (.i .i64))).cells ++ (Ty.enc .s (Ty.dflt .s)).cells ++ (Ty.enc .s (Ty.dflt .s)).cells ++ (Ty.enc (.i .i64) (Ty.dflt (.i .i64))).cells ++ [.s (.slice none 0 0)] ++ [.s (.slice none 0 0)] ++ (Ty.enc (.ar 32 (.i .u8)) (Ty.dflt (.ar 32 (.i .u8)))).cells ++ (Ty.enc (.i .i64) (Ty.dflt (.i .i64))).cells), some c44⟩
def ti45 : TI := ⟨39, 136, .st [(0, 3), (1, 9), (2, 9), (3, 3), (4, 41), (5, 41), (6, 43), (38, 3)], ((Ty.enc (.i .i64) (Ty.dflt (.i .i64))).cells ++ (Ty.enc .s (Ty.dflt .s)).cells ++ (Ty.enc .s (Ty.dflt .s)).cells ++ (Ty.enc (.i .i64) (Ty.dflt (.i .i64))).cells ++ [.s (.slice none 0 0)] ++ [.s (.slice none 0 0)] ++ (Ty.enc (.ar 32 (.i .u8)) (Ty.dflt (.ar 32 (.i .u8)))).cells ++ (Ty.enc (.i .i64) (Ty.dflt (.i .i64))).cells), some c44⟩
def ti46 : TI := ⟨1, 8, .ot, [.s .nilFunc], none⟩
def ti47 : TI := ⟨1, 8, .ot, [.s .nilFunc], none⟩
def ti48 : TI := ⟨1, 8, .ot, [.s .nilFunc], none⟩
def ti49 : TI := ⟨1, 8, .ot, [.s .nilFunc], none⟩
def ti50 : TI := ⟨1, 8, .ot, [.s .nilFunc], none⟩
def ti51 : TI := ⟨1, 8, .ot, [.s .nilFunc], none⟩
def ti52 : TI := ⟨1, 8, .ot, [.s .nilFunc], none⟩
def ti53 : TI := ⟨1, 8, .ot, [.s .nilFunc], none⟩
def ti54 : TI := ⟨1, 8, .ot, (Ty.enc (.pt c99) (Ty.dflt (.pt c99))).cells, some (.pt c99)⟩
def ti55 : TI := ⟨1, 8, .ot, [.s .nilFunc], none⟩
def ti56 : TI := ⟨1, 8, .ot, [.s .nilFunc], none⟩
def ti57 : TI := ⟨1, 24, .sl 5, [.s (.slice none 0 0)], some (.sl 1 (.i .u8))⟩
def ti58 : TI := ⟨1, 8, .ot, [.s .nilFunc], none⟩
def ti59 : TI := ⟨1, 8, .ot, [.s .nilFunc], none⟩
def ti60 : TI := ⟨1, 8, .ot, [.s .nilFunc], none⟩
def ti61 : TI := ⟨2, 40, .st [(0, 9), (1, 41)], ((Ty.enc .s (Ty.dflt .s)).cells ++ [.s (.slice none 0 0)]), some c61⟩
def ti62 : TI := ⟨2, 40, .st [(0, 9), (1, 41)], ((Ty.enc .s (Ty.dflt .s)).cells ++ [.s (.slice none 0 0)]), some c61⟩
def ti64 : TI := ⟨1, 8, .ot, [.s .nilFunc], none⟩
def ti65 : TI := ⟨1, 8, .ot, [.s .nilFunc], none⟩
def ti66 : TI := ⟨3, 32, .st [(0, 9), (1, 3), (2, 3)], ((Ty.enc .s (Ty.dflt .s)).cells ++ (Ty.enc (.i .i64) (Ty.dflt (.i .i64))).cells ++ (Ty.enc (.i .i64) (Ty.dflt (.i .i64))).cells), some c66⟩
def ti67 : TI := ⟨3, 32, .st [(0, 9), (1, 3), (2, 3)], ((Ty.enc .s (Ty.dflt .s)).cells ++ (Ty.enc (.i .i64) (Ty.dflt (.i .i64))).cells ++ (Ty.enc (.i .i64) (Ty.dflt (.i .i64))).cells), some c66⟩
def ti69 : TI := ⟨1, 8, .ot, [.s .nilFunc], none⟩
def ti71 : TI := ⟨1, 8, .ot, [.s .nilFunc], none⟩
def ti73 : TI := ⟨1, 8, .ot, [.s .nilFunc], none⟩
def ti74 : TI := ⟨2, 40, .st [(0, 9), (1, 41)], ((Ty.enc .s (Ty.dflt .s)).cells ++ [.s (.slice none 0 0)]), some c61⟩
def ti75 : TI := ⟨1, 8, .ot, [.s .nilFunc], none⟩
def ti76 : TI := ⟨1, 8, .ot, [.s .nilFunc], none⟩
def ti77 : TI := ⟨1, 8, .ot, (Ty.enc (.pt c78) (Ty.dflt (.pt c78))).cells, some (.pt c78)⟩
def ti78 : TI := ⟨1, 24, .st [(0, 57)], ([.s (.slice none 0 0)]), some c78⟩
def ti79 : TI := ⟨1, 24, .st [(0, 57)], ([.s (.slice none 0 0)]), some c78⟩
def ti80 : TI := ⟨1, 8, .ot, [.s .nilFunc], none⟩
def ti81 : TI := ⟨1, 8, .ot, [.s .nilFunc], none⟩
def ti82 : TI := ⟨1, 8, .ot, [.s .nilFunc], none⟩
def ti83 : TI := ⟨1, 8, .ot, [.s .nilFunc], none⟩
def ti84 : TI := ⟨1, 8, .ot, [.s .nilFunc], none⟩
def ti85 : TI := ⟨1, 8, .ot, [.s .nilFunc], none⟩
def ti87 : TI := ⟨1, 8, .ot, [.s .nilFunc], none⟩
def ti88 : TI := ⟨1, 8, .ot, [.s .nilFunc], none⟩
def ti89 : TI := ⟨1, 8, .ot, [.s .nilFunc], none⟩
def ti90 : TI := ⟨1, 8, .ot, [.s .nilFunc], none⟩
def ti91 : TI := ⟨3, 56, .st [(0, 3), (1, 41), (2, 41)], ((Ty.enc (.i .i64) (Ty.dflt (.i .i64))).cells ++ [.s (.slice none 0 0)] ++ [.s (.slice none 0 0)]), some c91⟩
def ti92 : TI := ⟨3, 56, .st [(0, 3), (1, 41), (2, 41)], ((Ty.enc (.i .i64) (Ty.dflt (.i .i64))).cells ++ [.s (.slice none 0 0)] ++ [.s (.slice none 0 0)]), some c91⟩
def ti93 : TI := ⟨7, 112, .ar 7 9, (Ty.enc (.ar 7 .s) (Ty.dflt (.ar 7 .s))).cells, some (.ar 7 .s)⟩
def ti94 : TI := ⟨1, 8, .ot, [.s .nilFunc], none⟩
def ti95 : TI := ⟨1, 8, .ot, [.s .nilFunc], none⟩
def ti97 : TI := ⟨1, 8, .ot, [.s .nilFunc], none⟩
def ti98 : TI := ⟨1, 8, .ot, [.s .nilFunc], none⟩
def ti99 : TI := ⟨3, 32, .st [(0, 9), (1, 3), (2, 26)], ((Ty.enc .s (Ty.dflt .s)).cells ++ (Ty.enc (.i .i64) (Ty.dflt (.i .i64))).cells ++ (Ty.enc (.i .i64) (Ty.dflt (.i .i64))).cells), some c99⟩
def ti100 : TI := ⟨3, 32, .st [(0, 9), (1, 3), (2, 26)], ((Ty.enc .s (Ty.dflt .s)).cells ++ (Ty.enc (.i .i64) (Ty.dflt (.i .i64))).cells ++ (Ty.enc (.i .i64) (Ty.dflt (.i .i64))).cells), some c99⟩
def ti102 : TI := ⟨1, 8, .ot, [.s .nilFunc], none⟩
def ti103 : TI := ⟨1, 8, .ot, [.s .nilFunc], none⟩
def ti105 : TI := ⟨1, 8, .ot, [.s .nilFunc], none⟩
def ti106 : TI := ⟨1, 8, .ot, [.s .nilFunc], none⟩
def ti107 : TI := ⟨1, 8, .ot, [.s .nilFunc], none⟩
def ti108 : TI := ⟨1, 8, .ot, [.s .nilFunc], none⟩
def ti109 : TI := ⟨1, 8, .ot, [.s .nilFunc], none⟩
def ti110 : TI := ⟨1, 8, .ot, [.s .nilFunc], none⟩
def ti111 : TI := ⟨1, 8, .ot, [.s .nilFunc], none⟩
def ti112 : TI := ⟨1, 8, .ot, [.s .nilFunc], none⟩
def ti113 : TI := ⟨1, 8, .ot, [.s .nilFunc], none⟩
def ti114 : TI := ⟨1, 8, .ot, [.s .nilFunc], none⟩
def ti115 : TI := ⟨1, 8, .ot, [.s .nilFunc], none⟩
def ti116 : TI := ⟨1, 8, .int .u64, (Ty.enc (.i .u64) (Ty.dflt (.i .u64))).cells, some (.i .u64)⟩
def ti117 : TI := ⟨1, 8, .ot, [.s (.pointer none)], none⟩
def ti118 : TI := ⟨2, 32, .st [(0, 117), (1, 57)], ([.s (.pointer none)] ++ [.s (.slice none 0 0)]), none⟩
def ti119 : TI := ⟨2, 32, .st [(0, 117), (1, 57)], ([.s (.pointer none)] ++ [.s (.slice none 0 0)]), none⟩
def ti120 : TI := ⟨1, 16, .ot, (Ty.enc .er (Ty.dflt .er)).cells, some .er⟩
def ti121 : TI := ⟨1, 16, .ot, (Ty.enc .er (Ty.dflt .er)).cells, some .er⟩
def ti123 : TI := ⟨1, 8, .ot, [.s .nilFunc], none⟩
def ti124 : TI := ⟨1, 24, .sl 41, [.s (.slice none 0 0)], some (.sl 1 (.sl 1 .s))⟩
def ti125 : TI := ⟨1, 8, .ot, [.s .nilFunc], none⟩
def ti126 : TI := ⟨1, 8, .ot, [.s .nilFunc], none⟩
def ti127 : TI := ⟨1, 8, .ot, [.s .nilFunc], none⟩
def ti128 : TI := ⟨6, 6, .ar 6 4, (Ty.enc (.ar 6 .b) (Ty.dflt (.ar 6 .b))).cells, some (.ar 6 .b)⟩
def ti129 : TI := ⟨1, 8, .ot, [.s .nilFunc], none⟩
def ti130 : TI := ⟨1, 8, .ot, [.s .nilFunc], none⟩
def ti131 : TI := ⟨1, 8, .ot, [.s .nilFunc], none⟩
def ti132 : TI := ⟨1, 8, .ot, [.s .nilFunc], none⟩
def ti133 : TI := ⟨1, 8, .ot, [.s .nilFunc], none⟩
def ti134 : TI := ⟨1, 8, .ot, [.s .nilFunc], none⟩
def ti135 : TI := ⟨1, 8, .ot, [.s .nilFunc], none⟩
def ti136 : TI := ⟨1, 8, .ot, [.s .nilFunc], none⟩
def ti137 : TI := ⟨1, 8, .ot, [.s .nilFunc], none⟩
def ti138 : TI := ⟨1, 8, .ot, [.s .nilFunc], none⟩
def ti139 : TI := ⟨1, 8, .ot, (Ty.enc (.pt (.i .u8)) (Ty.dflt (.pt (.i .u8)))).cells, some (.pt (.i .u8))⟩
def ti140 : TI := ⟨1, 8, .ot, [.s .nilFunc], none⟩
def ti141 : TI := ⟨3, 56, .st [(0, 3), (1, 41), (2, 41)], ((Ty.enc (.i .i64) (Ty.dflt (.i .i64))).cells ++ [.s (.slice none 0 0)] ++ [.s (.slice none 0 0)]), some c91⟩
def ti142 : TI := ⟨1, 8, .ot, [.s .nilFunc], none⟩
def ti143 : TI := ⟨1, 8, .ot, [.s .nilFunc], none⟩
def ti144 : TI := ⟨1, 8, .ot, [.s .nilFunc], none⟩
def ti145 : TI := ⟨1, 8, .ot, [.s .nilFunc], none⟩
def ti146 : TI := ⟨1, 8, .ot, [.s .nilFunc], none⟩
def ti147 : TI := ⟨1, 8, .ot, [.s .nilFunc], none⟩
def ti148 : TI := ⟨1, 8, .ot, [.s .nilFunc], none⟩
def ti149 : TI := ⟨1, 8, .ot, [.s .nilFunc], none⟩
def ti150 : TI := ⟨1, 8, .ot, [.s .nilFunc], none⟩
def ti151 : TI := ⟨1, 8, .ot, [.s .nilFunc], none⟩
def ti152 : TI := ⟨1, 8, .ot, [.s .nilFunc], none⟩
def ti153 : TI := ⟨1, 24, .sl 23, [.s (.slice none 0 0)], some (.sl 1 (.sl 2 c61))⟩
def ti154 : TI := ⟨1, 8, .ot, [.s .nilFunc], none⟩
def ti155 : TI := ⟨1, 8, .ot, [.s (.pointer none)], none⟩
def ti156 : TI := ⟨1, 8, .ot, [.s .nilFunc], none⟩
def ti157 : TI := ⟨1, 8, .ot, [.s .nilFunc], none⟩
def ti158 : TI := ⟨1, 8, .ot, [.s .nilFunc], none⟩
def ti159 : TI := ⟨1, 8, .ot, [.s .nilFunc], none⟩
def ti160 : TI := ⟨1, 8, .int .i64, (Ty.enc (.i .i64) (Ty.dflt (.i .i64))).cells, some (.i .i64)⟩
def ti162 : TI := ⟨1, 8, .ot, [.s .nilFunc], none⟩
def ti163 : TI := ⟨1, 8, .ot, (Ty.enc (.pt c179) (Ty.dflt (.pt c179))).cells, some (.pt c179)⟩
def ti164 : TI := ⟨1, 8, .ot, [.s .nilFunc], none⟩
def ti165 : TI := ⟨1, 8, .ot, [.s .nilFunc], none⟩
def ti166 : TI := ⟨1, 8, .ot, [.s .nilFunc], none⟩
def ti168 : TI := ⟨1, 8, .ot, [.s .nilFunc], none⟩
def ti169 : TI := ⟨1, 8, .ot, [.s .nilFunc], none⟩
def ti170 : TI := ⟨24, 24, .ar 24 5, (Ty.enc (.ar 24 (.i .u8)) (Ty.dflt (.ar 24 (.i .u8)))).cells, some (.ar 24 (.i .u8))⟩
def ti171 : TI := ⟨1, 8, .int .u64, (Ty.enc (.i .u64) (Ty.dflt (.i .u64))).cells, some (.i .u64)⟩
def ti172 : TI := ⟨1, 8, .ot, [.s .nilFunc], none⟩
def ti173 : TI := ⟨1, 8, .ot, [.s .nilFunc], none⟩
def ti175 : TI := ⟨1, 8, .ot, [.s .nilFunc], none⟩
def ti177 : TI := ⟨1, 8, .ot, [.s .nilFunc], none⟩
def ti178 : TI := ⟨1, 8, .ot, [.s .nilFunc], none⟩
def ti179 : TI := ⟨3, 48, .st [(0, 9), (1, 9), (2, 121)], ((Ty.enc .s (Ty.dflt .s)).cells ++ (Ty.enc .s (Ty.dflt .s)).cells ++ (Ty.enc .er (Ty.dflt .er)).cells), some c179⟩
def ti180 : TI := ⟨3, 48, .st [(0, 9), (1, 9), (2, 121)], ((Ty.enc .s (Ty.dflt .s)).cells ++ (Ty.enc .s (Ty.dflt .s)).cells ++ (Ty.enc .er (Ty.dflt .er)).cells), some c179⟩
def ti181 : TI := ⟨1, 8, .ot, [.s .nilFunc], none⟩
def ti182 : TI := ⟨1, 8, .ot, [.s .nilFunc], none⟩
def ti183 : TI := ⟨1, 8, .ot, [.s .nilFunc], none⟩
def ti184 : TI := ⟨20, 160, .ar 20 171, (Ty.enc (.ar 20 (.i .u64)) (Ty.dflt (.ar 20 (.i .u64)))).cells, some (.ar 20 (.i .u64))⟩
def ti185 : TI := ⟨1, 4, .int .u32, (Ty.enc (.i .u32) (Ty.dflt (.i .u32))).cells, some (.i .u32)⟩
def ti186 : TI := ⟨65, 65, .ar 65 5, (Ty.enc (.ar 65 (.i .u8)) (Ty.dflt (.ar 65 (.i .u8)))).cells, some (.ar 65 (.i .u8))⟩
def ti187 : TI := ⟨1, 8, .ot, [.s .nilFunc], none⟩
def ti188 : TI := ⟨1, 8, .ot, [.s .nilFunc], none⟩
def ti189 : TI := ⟨1, 8, .ot, (Ty.enc (.pt c190) (Ty.dflt (.pt c190))).cells, some (.pt c190)⟩
def ti190 : TI := ⟨1, 16, .st [(0, 9)], ((Ty.enc .s (Ty.dflt .s)).cells), some c190⟩
def ti191 : TI := ⟨1, 16, .st [(0, 9)], ((Ty.enc .s (Ty.dflt .s)).cells), some c190⟩
def ti192 : TI := ⟨256, 256, .ar 256 5, (Ty.enc (.ar 256 (.i .u8)) (Ty.dflt (.ar 256 (.i .u8)))).cells, some (.ar 256 (.i .u8))⟩
def ti193 : TI := ⟨2, 2, .st [(0, 5), (1, 5)], ((Ty.enc (.i .u8) (Ty.dflt (.i .u8))).cells ++ (Ty.enc (.i .u8) (Ty.dflt (.i .u8))).cells), some c193⟩
def ti194 : TI := ⟨2, 2, .st [(0, 5), (1, 5)], ((Ty.enc (.i .u8) (Ty.dflt (.i .u8))).cells ++ (Ty.enc (.i .u8) (Ty.dflt (.i .u8))).cells), some c193⟩
def ti195 : TI := ⟨32, 32, .ar 16 194, (Ty.enc (.ar 16 c193) (Ty.dflt (.ar 16 c193))).cells, some (.ar 16 c193)⟩
def ti197 : TI := ⟨1, 8, .ot, [.s .nilFunc], none⟩
def ti198 : TI := ⟨1, 8, .ot, [.s .nilFunc], none⟩
def ti199 : TI := ⟨64, 64, .ar 64 5, (Ty.enc (.ar 64 (.i .u8)) (Ty.dflt (.ar 64 (.i .u8)))).cells, some (.ar 64 (.i .u8))⟩
def ti200 : TI := ⟨4, 40, .st [(0, 17), (1, 17), (2, 17), (3, 9)], ([.s (.pointer none)] ++ [.s (.pointer none)] ++ [.s (.pointer none)] ++ (Ty.enc .s (Ty.dflt .s)).cells), none⟩
def ti201 : TI := ⟨4, 40, .st [(0, 17), (1, 17), (2, 17), (3, 9)], ([.s (.pointer none)] ++ [.s (.pointer none)] ++ [.s (.pointer none)] ++ (Ty.enc .s (Ty.dflt .s)).cells), none⟩
def ti205 : TI := ⟨1, 1, .int .u8, (Ty.enc (.i .u8) (Ty.dflt (.i .u8))).cells, some (.i .u8)⟩
def ti206 : TI := ⟨1, 1, .int .u8, (Ty.enc (.i .u8) (Ty.dflt (.i .u8))).cells, some (.i .u8)⟩
def ti207 : TI := ⟨1, 8, .ot, [.s .nilFunc], none⟩
def ti208 : TI := ⟨1, 4, .int .i32, (Ty.enc (.i .i32) (Ty.dflt (.i .i32))).cells, some (.i .i32)⟩
def ti209 : TI := ⟨1, 4, .int .i32, (Ty.enc (.i .i32) (Ty.dflt (.i .i32))).cells, some (.i .i32)⟩
def ti210 : TI := ⟨11, 48, .st [(0, 12), (1, 12), (2, 185), (3, 205), (4, 5), (5, 5), (6, 206), (7, 207), (8, 139), (9, 208), (10, 209)], ((Ty.enc (.i .u64) (Ty.dflt (.i .u64))).cells ++ (Ty.enc (.i .u64) (Ty.dflt (.i .u64))).cells ++ (Ty.enc (.i .u32) (Ty.dflt (.i .u32))).cells ++ (Ty.enc (.i .u8) (Ty.dflt (.i .u8))).cells ++ (Ty.enc (.i .u8) (Ty.dflt (.i .u8))).cells ++ (Ty.enc (.i .u8) (Ty.dflt (.i .u8))).cells ++ (Ty.enc (.i .u8) (Ty.dflt (.i .u8))).cells ++ [.s .nilFunc] ++ (Ty.enc (.pt (.i .u8)) (Ty.dflt (.pt (.i .u8)))).cells ++ (Ty.enc (.i .i32) (Ty.dflt (.i .i32))).cells ++ (Ty.enc (.i .i32) (Ty.dflt (.i .i32))).cells), none⟩
def ti211 : TI := ⟨11, 48, .st [(0, 12), (1, 12), (2, 185), (3, 205), (4, 5), (5, 5), (6, 206), (7, 207), (8, 139), (9, 208), (10, 209)], ((Ty.enc (.i .u64) (Ty.dflt (.i .u64))).cells ++ (Ty.enc (.i .u64) (Ty.dflt (.i .u64))).cells ++ (Ty.enc (.i .u32) (Ty.dflt (.i .u32))).cells ++ (Ty.enc (.i .u8) (Ty.dflt (.i .u8))).cells ++ (Ty.enc (.i .u8) (Ty.dflt (.i .u8))).cells ++ (Ty.enc (.i .u8) (Ty.dflt (.i .u8))).cells ++ (Ty.enc (.i .u8) (Ty.dflt (.i .u8))).cells ++ [.s .nilFunc] ++ (Ty.enc (.pt (.i .u8)) (Ty.dflt (.pt (.i .u8)))).cells ++ (Ty.enc (.i .i32) (Ty.dflt (.i .i32))).cells ++ (Ty.enc (.i .i32) (Ty.dflt (.i .i32))).cells), none⟩
def tl : List (Nat × TI) := [(1, ti1), (2, ti2), (3, ti3), (4, ti4), (5, ti5), (6, ti6), (7, ti7), (8, ti8), (9, ti9), (10, ti10), (11, ti11), (12, ti12), (13, ti13), (14, ti14), (15, ti15), (16, ti16), (17, ti17), (18, ti18), (19, ti19), (20, ti20), (21, ti21), (22, ti22), (23, ti23), (24, ti24), (25, ti25), (26, ti26), (28, ti28), (29, ti29), (31, ti31), (32, ti32), (33, ti33), (34, ti34), (35, ti35), (36, ti36), (37, ti37), (39, ti39), (40, ti40), (41, ti41), (42, ti42), (43, ti43), (44, ti44), (45, ti45), (46, ti46), (47, ti47), (48, ti48), (49, ti49), (50, ti50), (51, ti51), (52, ti52), (53, ti53), (54, ti54), (55, ti55), (56, ti56), (57, ti57), (58, ti58), (59, ti59), (60, ti60), (61, ti61), (62, ti62), (64, ti64), (65, ti65), (66, ti66), (67, ti67), (69, ti69), (71, ti71), (73, ti73), (74, ti74), (75, ti75), (76, ti76), (77, ti77), (78, ti78), (79, ti79), (80, ti80), (81, ti81), (82, ti82), (83, ti83), (84, ti84), (85, ti85), (87, ti87), (88, ti88), (89, ti89), (90, ti90), (91, ti91), (92, ti92), (93, ti93), (94, ti94), (95, ti95), (97, ti97), (98, ti98), (99, ti99), (100, ti100), (102, ti102), (103, ti103), (105, ti105), (106, ti106), (107, ti107), (108, ti108), (109, ti109), (110, ti110), (111, ti111), (112, ti112), (113, ti113), (114, ti114), (115, ti115), (116, ti116), (117, ti117), (118, ti118), (119, ti119), (120, ti120), (121, ti121), (123, ti123), (124, ti124), (125, ti125), (126, ti126), (127, ti127), (128, ti128), (129, ti129), (130, ti130), (131, ti131), (132, ti132), (133, ti133), (134, ti134), (135, ti135), (136, ti136), (137, ti137), (138, ti138), (139, ti139), (140, ti140), (141, ti141), (142, ti142), (143, ti143), (144, ti144), (145, ti145), (146, ti146), (147, ti147), (148, ti148), (149, ti149), (150, ti150), (151, ti151), (152, ti152), (153, ti153), (154, ti154), (155, ti155), (156, ti156), (157, ti157), (158, ti158), (159, ti159), (160, ti160), (162, ti162), (163, ti163), (164, ti164), (165, ti165), (166, ti166), (168, ti168), (169, ti169), (170, ti170), (171, ti171), (172, ti172), (173, ti173), (175, ti175), (177, ti177), (178, ti178), (179, ti179), (180, ti180), (181, ti181), (182, ti182), (183, ti183), (184, ti184), (185, ti185), (186, ti186), (187, ti187), (188, ti188), (189, ti189), (190, ti190), (191, ti191), (192, ti192), (193, ti193), (194, ti194), (195, ti195), (197, ti197), (198, ti198), (199, ti199), (200, ti200), (201, ti201), (205, ti205), (206, ti206), (207, ti207), (208, ti208), (209, ti209), (210, ti210), (211, ti211)]
abbrev T : Tab := tab tl
theorem T_ok : TOk Tryd.prog T := TOk.of (l := tl)
  ⟨⟨by kernel_rfl, by kernel_rfl, by kernel_rfl, by kernel_rfl, by kernel_rfl⟩,
   ⟨by kernel_rfl, by kernel_rfl, by kernel_rfl, by kernel_rfl, by kernel_rfl⟩,
   ⟨by kernel_rfl, by kernel_rfl, by kernel_rfl, by kernel_rfl, by kernel_rfl⟩,
   ⟨by kernel_rfl, by kernel_rfl, by kernel_rfl, by kernel_rfl, by kernel_rfl⟩,
   ⟨by kernel_rfl, by kernel_rfl, by kernel_rfl, by kernel_rfl, by kernel_rfl⟩,
   ⟨by kernel_rfl, by kernel_rfl, by kernel_rfl, by kernel_rfl, by kernel_rfl⟩,
   ⟨by kernel_rfl, by kernel_rfl, by kernel_rfl, by kernel_rfl, by kernel_rfl⟩,
   ⟨by kernel_rfl, by kernel_rfl, by kernel_rfl, by kernel_rfl, by kernel_rfl⟩,
   ⟨by kernel_rfl, by kernel_rfl, by kernel_rfl, by kernel_rfl, by kernel_rfl⟩,
   ⟨by kernel_rfl, by kernel_rfl, by kernel_rfl, by kernel_rfl, by kernel_rfl⟩,
   ⟨by kernel_rfl, by kernel_rfl, by kernel_rfl, by kernel_rfl, by kernel_rfl⟩,
   ⟨by kernel_rfl, by kernel_rfl, by kernel_rfl, by kernel_rfl, by kernel_rfl⟩,
   ⟨by kernel_rfl, by kernel_rfl, by kernel_rfl, by kernel_rfl, by kernel_rfl⟩,
   ⟨by kernel_rfl, by kernel_rfl, by kernel_rfl, by kernel_rfl, by kernel_rfl⟩,
   ⟨by kernel_rfl, by kernel_rfl, by kernel_rfl, by kernel_rfl, by kernel_rfl⟩,
   ⟨by kernel_rfl, by kernel_rfl, by kernel_rfl, by kernel_rfl, by kernel_rfl⟩,
   ⟨by kernel_rfl, by kernel_rfl, by kernel_rfl, by kernel_rfl, by kernel_rfl⟩,
   ⟨by kernel_rfl, by kernel_rfl, by kernel_rfl, by kernel_rfl, by kernel_rfl⟩,
   ⟨by kernel_rfl, by kernel_rfl, by kernel_rfl, by kernel_rfl, by kernel_rfl⟩,
   ⟨by kernel_rfl, by kernel_rfl, by kernel_rfl, by kernel_rfl, by kernel_rfl⟩,
   ⟨by kernel_rfl, by kernel_rfl, by kernel_rfl, by kernel_rfl, by kernel_rfl⟩,
   ⟨by kernel_rfl, by kernel_rfl, by kernel_rfl, by kernel_rfl, by kernel_rfl⟩,
   ⟨by kernel_rfl, by kernel_rfl, by kernel_rfl, by kernel_rfl, by kernel_rfl⟩,
   ⟨by kernel_rfl, by kernel_rfl, by kernel_rfl, by kernel_rfl, by kernel_rfl⟩,
   ⟨by kernel_rfl, by kernel_rfl, by kernel_rfl, by kernel_rfl, by kernel_rfl⟩,
   ⟨by kernel_rfl, by kernel_rfl, by kernel_rfl, by kernel_rfl, by kernel_rfl⟩,
   ⟨by kernel_rfl, by kernel_rfl, by kernel_rfl, by kernel_rfl, by kernel_rfl⟩,
   ⟨by kernel_rfl, by kernel_rfl, by kernel_rfl, by kernel_rfl, by kernel_rfl⟩,
   ⟨by kernel_rfl, by kernel_rfl, by kernel_rfl, by kernel_rfl, by kernel_rfl⟩,
   ⟨by kernel_rfl, by kernel_rfl, by kernel_rfl, by kernel_rfl, by kernel_rfl⟩,
   ⟨by kernel_rfl, by kernel_rfl, by kernel_rfl, by kernel_rfl, by kernel_rfl⟩,
   ⟨by kernel_rfl, by kernel_rfl, by kernel_rfl, by kernel_rfl, by kernel_rfl⟩,
   ⟨by kernel_rfl, by kernel_rfl, by kernel_rfl, by kernel_rfl, by kernel_rfl⟩,
   ⟨by kernel_rfl, by kernel_rfl, by kernel_rfl, by kernel_rfl, by kernel_rfl⟩,
   ⟨by kernel_rfl, by kernel_rfl, by kernel_rfl, by kernel_rfl, by kernel_rfl⟩,
   ⟨by kernel_rfl, by kernel_rfl, by kernel_rfl, by kernel_rfl, by kernel_rfl⟩,
   ⟨by kernel_rfl, by kernel_rfl, by kernel_rfl, by kernel_rfl, by kernel_rfl⟩,
   ⟨by kernel_rfl, by kernel_rfl, by kernel_rfl, by kernel_rfl, by kernel_rfl⟩,
   ⟨by kernel_rfl, by kernel_rfl, by kernel_rfl, by kernel_rfl, by kernel_rfl⟩,
   ⟨by kernel_rfl, by kernel_rfl, by kernel_rfl, by kernel_rfl, by kernel_rfl⟩,
   ⟨by kernel_rfl, by kernel_rfl, by kernel_rfl, by kernel_rfl, by kernel_rfl⟩,
   ⟨by kernel_rfl, by kernel_rfl, by kernel_rfl, by kernel_rfl, by kernel_rfl⟩,
   ⟨by kernel_rfl, by kernel_rfl, by kernel_rfl, by kernel_rfl, by kernel_rfl⟩,
   ⟨by kernel_rfl, by kernel_rfl, by kernel_rfl, by kernel_rfl, by kernel_rfl⟩,
   ⟨by kernel_rfl, by kernel_rfl, by kernel_rfl, by kernel_rfl, by kernel_rfl⟩,
   ⟨by kernel_rfl, by kernel_rfl, by kernel_rfl, by kernel_rfl, by kernel_rfl⟩,
   ⟨by kernel_rfl, by kernel_rfl, by kernel_rfl, by kernel_rfl, by kernel_rfl⟩,
   ⟨by kernel_rfl, by kernel_rfl, by kernel_rfl, by kernel_rfl, by kernel_rfl⟩,
   ⟨by kernel_rfl, by kernel_rfl, by kernel_rfl, by kernel_rfl, by kernel_rfl⟩,
   ⟨by kernel_rfl, by kernel_rfl, by kernel_rfl, by kernel_rfl, by kernel_rfl⟩,
   ⟨by kernel_rfl, by kernel_rfl, by kernel_rfl, by kernel_rfl, by kernel_rfl⟩,
   ⟨by kernel_rfl, by kernel_rfl, by kernel_rfl, by kernel_rfl, by kernel_rfl⟩,
   ⟨by kernel_rfl, by kernel_rfl, by kernel_rfl, by kernel_rfl, by kernel_rfl⟩,
   ⟨by kernel_rfl, by kernel_rfl, by kernel_rfl, by kernel_rfl, by kernel_rfl⟩,
   ⟨by kernel_rfl, by kernel_rfl, by kernel_rfl, by kernel_rfl, by kernel_rfl⟩,
   ⟨by kernel_rfl, by kernel_rfl, by kernel_rfl, by kernel_rfl, by kernel_rfl⟩,
   ⟨by kernel_rfl, by kernel_rfl, by kernel_rfl, by kernel_rfl, by kernel_rfl⟩,
   ⟨by kernel_rfl, by kernel_rfl, by kernel_rfl, by kernel_rfl, by kernel_rfl⟩,
   ⟨by kernel_rfl, by kernel_rfl, by kernel_rfl, by kernel_rfl, by kernel_rfl⟩,
   ⟨by kernel_rfl, by kernel_rfl, by kernel_rfl, by kernel_rfl, by kernel_rfl⟩,
   ⟨by kernel_rfl, by kernel_rfl, by kernel_rfl, by kernel_rfl, by kernel_rfl⟩,
   ⟨by kernel_rfl, by kernel_rfl, by kernel_rfl, by kernel_rfl, by kernel_rfl⟩,
   ⟨by kernel_rfl, by kernel_rfl, by kernel_rfl, by kernel_rfl, by kernel_rfl⟩,
   ⟨by kernel_rfl, by kernel_rfl, by kernel_rfl, by kernel_rfl, by kernel_rfl⟩,
   ⟨by kernel_rfl, by kernel_rfl, by kernel_rfl, by kernel_rfl, by kernel_rfl⟩,
   ⟨by kernel_rfl, by kernel_rfl, by kernel_rfl, by kernel_rfl, by kernel_rfl⟩,
   ⟨by kernel_rfl, by kernel_rfl, by kernel_rfl, by kernel_rfl, by kernel_rfl⟩,
   ⟨by kernel_rfl, by kernel_rfl, by kernel_rfl, by kernel_rfl, by kernel_rfl⟩,
   ⟨by kernel_rfl, by kernel_rfl, by kernel_rfl, by kernel_rfl, by kernel_rfl⟩,
   ⟨by kernel_rfl, by kernel_rfl, by kernel_rfl, by kernel_rfl, by kernel_rfl⟩,
   ⟨by kernel_rfl, by kernel_rfl, by kernel_rfl, by kernel_rfl, by kernel_rfl⟩,
   ⟨by kernel_rfl, by kernel_rfl, by kernel_rfl, by kernel_rfl, by kernel_rfl⟩,
   ⟨by kernel_rfl, by kernel_rfl, by kernel_rfl, by kernel_rfl, by kernel_rfl⟩,
   ⟨by kernel_rfl, by kernel_rfl, by kernel_rfl, by kernel_rfl, by kernel_rfl⟩,
   ⟨by kernel_rfl, by kernel_rfl, by kernel_rfl, by kernel_rfl, by kernel_rfl⟩,
   ⟨by kernel_rfl, by kernel_rfl, by kernel_rfl, by kernel_rfl, by kernel_rfl⟩,
   ⟨by kernel_rfl, by kernel_rfl, by kernel_rfl, by kernel_rfl, by kernel_rfl⟩,
   ⟨by kernel_rfl, by kernel_rfl, by kernel_rfl, by kernel_rfl, by kernel_rfl⟩,
   ⟨by kernel_rfl, by kernel_rfl, by kernel_rfl, by kernel_rfl, by kernel_rfl⟩,
   ⟨by kernel_rfl, by kernel_rfl, by kernel_rfl, by kernel_rfl, by kernel_rfl⟩,
   ⟨by kernel_rfl, by kernel_rfl, by kernel_rfl, by kernel_rfl, by kernel_rfl⟩,
   ⟨by kernel_rfl, by kernel_rfl, by kernel_rfl, by kernel_rfl, by kernel_rfl⟩,
   ⟨by kernel_rfl, by kernel_rfl, by kernel_rfl, by kernel_rfl, by kernel_rfl⟩,
   ⟨by kernel_rfl, by kernel_rfl, by kernel_rfl, by kernel_rfl, by kernel_rfl⟩,
   ⟨by kernel_rfl, by kernel_rfl, by kernel_rfl, by kernel_rfl, by kernel_rfl⟩,
   ⟨by kernel_rfl, by kernel_rfl, by kernel_rfl, by kernel_rfl, by kernel_rfl⟩,
   ⟨by kernel_rfl, by kernel_rfl, by kernel_rfl, by kernel_rfl, by kernel_rfl⟩,
   ⟨by kernel_rfl, by kernel_rfl, by kernel_rfl, by kernel_rfl, by kernel_rfl⟩,
   ⟨by kernel_rfl, by kernel_rfl, by kernel_rfl, by kernel_rfl, by kernel_rfl⟩,
   ⟨by kernel_rfl, by kernel_rfl, by kernel_rfl, by kernel_rfl, by kernel_rfl⟩,
   ⟨by kernel_rfl, by kernel_rfl, by kernel_rfl, by kernel_rfl, by kernel_rfl⟩,
   ⟨by kernel_rfl, by kernel_rfl, by kernel_rfl, by kernel_rfl, by kernel_rfl⟩,
   ⟨by kernel_rfl, by kernel_rfl, by kernel_rfl, by kernel_rfl, by kernel_rfl⟩,
   ⟨by kernel_rfl, by kernel_rfl, by kernel_rfl, by kernel_rfl, by kernel_rfl⟩,
   ⟨by kernel_rfl, by kernel_rfl, by kernel_rfl, by kernel_rfl, by kernel_rfl⟩,
   ⟨by kernel_rfl, by kernel_rfl, by kernel_rfl, by kernel_rfl, by kernel_rfl⟩,
   ⟨by kernel_rfl, by kernel_rfl, by kernel_rfl, by kernel_rfl, by kernel_rfl⟩,
   ⟨by kernel_rfl, by kernel_rfl, by kernel_rfl, by kernel_rfl, by kernel_rfl⟩,
   ⟨by kernel_rfl, by kernel_rfl, by kernel_rfl, by kernel_rfl, by kernel_rfl⟩,
   ⟨by kernel_rfl, by kernel_rfl, by kernel_rfl, by kernel_rfl, by kernel_rfl⟩,
   ⟨by kernel_rfl, by kernel_rfl, by kernel_rfl, by kernel_rfl, by kernel_rfl⟩,
   ⟨by kernel_rfl, by kernel_rfl, by kernel_rfl, by kernel_rfl, by kernel_rfl⟩,
   ⟨by kernel_rfl, by kernel_rfl, by kernel_rfl, by kernel_rfl, by kernel_rfl⟩,
   ⟨by kernel_rfl, by kernel_rfl, by kernel_rfl, by kernel_rfl, by kernel_rfl⟩,
   ⟨by kernel_rfl, by kernel_rfl, by kernel_rfl, by kernel_rfl, by kernel_rfl⟩,
   ⟨by kernel_rfl, by kernel_rfl, by kernel_rfl, by kernel_rfl, by kernel_rfl⟩,
   ⟨by kernel_rfl, by kernel_rfl, by kernel_rfl, by kernel_rfl, by kernel_rfl⟩,
   ⟨by kernel_rfl, by kernel_rfl, by kernel_rfl, by kernel_rfl, by kernel_rfl⟩,
   ⟨by kernel_rfl, by kernel_rfl, by kernel_rfl, by kernel_rfl, by kernel_rfl⟩,
   ⟨by kernel_rfl, by kernel_rfl, by kernel_rfl, by kernel_rfl, by kernel_rfl⟩,
   ⟨by kernel_rfl, by kernel_rfl, by kernel_rfl, by kernel_rfl, by kernel_rfl⟩,
   ⟨by kernel_rfl, by kernel_rfl, by kernel_rfl, by kernel_rfl, by kernel_rfl⟩,
   ⟨by kernel_rfl, by kernel_rfl, by kernel_rfl, by kernel_rfl, by kernel_rfl⟩,
   ⟨by kernel_rfl, by kernel_rfl, by kernel_rfl, by kernel_rfl, by kernel_rfl⟩,
   ⟨by kernel_rfl, by kernel_rfl, by kernel_rfl, by kernel_rfl, by kernel_rfl⟩,
   ⟨by kernel_rfl, by kernel_rfl, by kernel_rfl, by kernel_rfl, by kernel_rfl⟩,
   ⟨by kernel_rfl, by kernel_rfl, by kernel_rfl, by kernel_rfl, by kernel_rfl⟩,
   ⟨by kernel_rfl, by kernel_rfl, by kernel_rfl, by kernel_rfl, by kernel_rfl⟩,
   ⟨by kernel_rfl, by kernel_rfl, by kernel_rfl, by kernel_rfl, by kernel_rfl⟩,
   ⟨by kernel_rfl, by kernel_rfl, by kernel_rfl, by kernel_rfl, by kernel_rfl⟩,
   ⟨by kernel_rfl, by kernel_rfl, by kernel_rfl, by kernel_rfl, by kernel_rfl⟩,
   ⟨by kernel_rfl, by kernel_rfl, by kernel_rfl, by kernel_rfl, by kernel_rfl⟩,
   ⟨by kernel_rfl, by kernel_rfl, by kernel_rfl, by kernel_rfl, by kernel_rfl⟩,
   ⟨by kernel_rfl, by kernel_rfl, by kernel_rfl, by kernel_rfl, by kernel_rfl⟩,
   ⟨by kernel_rfl, by kernel_rfl, by kernel_rfl, by kernel_rfl, by kernel_rfl⟩,
   ⟨by kernel_rfl, by kernel_rfl, by kernel_rfl, by kernel_rfl, by kernel_rfl⟩,
   ⟨by kernel_rfl, by kernel_rfl, by kernel_rfl, by kernel_rfl, by kernel_rfl⟩,
   ⟨by kernel_rfl, by kernel_rfl, by kernel_rfl, by kernel_rfl, by kernel_rfl⟩,
   ⟨by kernel_rfl, by kernel_rfl, by kernel_rfl, by kernel_rfl, by kernel_rfl⟩,
   ⟨by kernel_rfl, by kernel_rfl, by kernel_rfl, by kernel_rfl, by kernel_rfl⟩,
   ⟨by kernel_rfl, by kernel_rfl, by kernel_rfl, by kernel_rfl, by kernel_rfl⟩,
   ⟨by kernel_rfl, by kernel_rfl, by kernel_rfl, by kernel_rfl, by kernel_rfl⟩,
   ⟨by kernel_rfl, by kernel_rfl, by kernel_rfl, by kernel_rfl, by kernel_rfl⟩,
   ⟨by kernel_rfl, by kernel_rfl, by kernel_rfl, by kernel_rfl, by kernel_rfl⟩,
   ⟨by kernel_rfl, by kernel_rfl, by kernel_rfl, by kernel_rfl, by kernel_rfl⟩,
   ⟨by kernel_rfl, by kernel_rfl, by kernel_rfl, by kernel_rfl, by kernel_rfl⟩,
   ⟨by kernel_rfl, by kernel_rfl, by kernel_rfl, by kernel_rfl, by kernel_rfl⟩,
   ⟨by kernel_rfl, by kernel_rfl, by kernel_rfl, by kernel_rfl, by kernel_rfl⟩,
   ⟨by kernel_rfl, by kernel_rfl, by kernel_rfl, by kernel_rfl, by kernel_rfl⟩,
   ⟨by kernel_rfl, by kernel_rfl, by kernel_rfl, by kernel_rfl, by kernel_rfl⟩,
   ⟨by kernel_rfl, by kernel_rfl, by kernel_rfl, by kernel_rfl, by kernel_rfl⟩,
   ⟨by kernel_rfl, by kernel_rfl, by kernel_rfl, by kernel_rfl, by kernel_rfl⟩,
   ⟨by kernel_rfl, by kernel_rfl, by kernel_rfl, by kernel_rfl, by kernel_rfl⟩,
   ⟨by kernel_rfl, by kernel_rfl, by kernel_rfl, by kernel_rfl, by kernel_rfl⟩,
   ⟨by kernel_rfl, by kernel_rfl, by kernel_rfl, by kernel_rfl, by kernel_rfl⟩,
   ⟨by kernel_rfl, by kernel_rfl, by kernel_rfl, by kernel_rfl, by kernel_rfl⟩,
   ⟨by kernel_rfl, by kernel_rfl, by kernel_rfl, by kernel_rfl, by kernel_rfl⟩,
   ⟨by kernel_rfl, by kernel_rfl, by kernel_rfl, by kernel_rfl, by kernel_rfl⟩,
   ⟨by kernel_rfl, by kernel_rfl, by kernel_rfl, by kernel_rfl, by kernel_rfl⟩,
   ⟨by kernel_rfl, by kernel_rfl, by kernel_rfl, by kernel_rfl, by kernel_rfl⟩,
   ⟨by kernel_rfl, by kernel_rfl, by kernel_rfl, by kernel_rfl, by kernel_rfl⟩,
   ⟨by kernel_rfl, by kernel_rfl, by kernel_rfl, by kernel_rfl, by kernel_rfl⟩,
   ⟨by kernel_rfl, by kernel_rfl, by kernel_rfl, by kernel_rfl, by kernel_rfl⟩,
   ⟨by kernel_rfl, by kernel_rfl, by kernel_rfl, by kernel_rfl, by kernel_rfl⟩,
   ⟨by kernel_rfl, by kernel_rfl, by kernel_rfl, by kernel_rfl, by kernel_rfl⟩,
   ⟨by kernel_rfl, by kernel_rfl, by kernel_rfl, by kernel_rfl, by kernel_rfl⟩,
   ⟨by kernel_rfl, by kernel_rfl, by kernel_rfl, by kernel_rfl, by kernel_rfl⟩,
   ⟨by kernel_rfl, by kernel_rfl, by kernel_rfl, by kernel_rfl, by kernel_rfl⟩,
   ⟨by kernel_rfl, by kernel_rfl, by kernel_rfl, by kernel_rfl, by kernel_rfl⟩,
   ⟨by kernel_rfl, by kernel_rfl, by kernel_rfl, by kernel_rfl, by kernel_rfl⟩,
   ⟨by kernel_rfl, by kernel_rfl, by kernel_rfl, by kernel_rfl, by kernel_rfl⟩,
   ⟨by kernel_rfl, by kernel_rfl, by kernel_rfl, by kernel_rfl, by kernel_rfl⟩,
   ⟨by kernel_rfl, by kernel_rfl, by kernel_rfl, by kernel_rfl, by kernel_rfl⟩,
   ⟨by kernel_rfl, by kernel_rfl, by kernel_rfl, by kernel_rfl, by kernel_rfl⟩,
   ⟨by kernel_rfl, by kernel_rfl, by kernel_rfl, by kernel_rfl, by kernel_rfl⟩,
   ⟨by kernel_rfl, by kernel_rfl, by kernel_rfl, by kernel_rfl, by kernel_rfl⟩,
   ⟨by kernel_rfl, by kernel_rfl, by kernel_rfl, by kernel_rfl, by kernel_rfl⟩,
   ⟨by kernel_rfl, by kernel_rfl, by kernel_rfl, by kernel_rfl, by kernel_rfl⟩,
   ⟨by kernel_rfl, by kernel_rfl, by kernel_rfl, by kernel_rfl, by kernel_rfl⟩,
   ⟨by kernel_rfl, by kernel_rfl, by kernel_rfl, by kernel_rfl, by kernel_rfl⟩,
   ⟨by kernel_rfl, by kernel_rfl, by kernel_rfl, by kernel_rfl, by kernel_rfl⟩,
   ⟨by kernel_rfl, by kernel_rfl, by kernel_rfl, by kernel_rfl, by kernel_rfl⟩,
   ⟨by kernel_rfl, by kernel_rfl, by kernel_rfl, by kernel_rfl, by kernel_rfl⟩,
   ⟨by kernel_rfl, by kernel_rfl, by kernel_rfl, by kernel_rfl, by kernel_rfl⟩,
   ⟨by kernel_rfl, by kernel_rfl, by kernel_rfl, by kernel_rfl, by kernel_rfl⟩,
   ⟨by kernel_rfl, by kernel_rfl, by kernel_rfl, by kernel_rfl, by kernel_rfl⟩,
   ⟨by kernel_rfl, by kernel_rfl, by kernel_rfl, by kernel_rfl, by kernel_rfl⟩,
   ⟨by kernel_rfl, by kernel_rfl, by kernel_rfl, by kernel_rfl, by kernel_rfl⟩,
   ⟨by kernel_rfl, by kernel_rfl, by kernel_rfl, by kernel_rfl, by kernel_rfl⟩,
   ⟨by kernel_rfl, by kernel_rfl, by kernel_rfl, by kernel_rfl, by kernel_rfl⟩,
   ⟨by kernel_rfl, by kernel_rfl, by kernel_rfl, by kernel_rfl, by kernel_rfl⟩,
   ⟨by kernel_rfl, by kernel_rfl, by kernel_rfl, by kernel_rfl, by kernel_rfl⟩,
   ⟨by kernel_rfl, by kernel_rfl, by kernel_rfl, by kernel_rfl, by kernel_rfl⟩,
   ⟨by kernel_rfl, by kernel_rfl, by kernel_rfl, by kernel_rfl, by kernel_rfl⟩,
   ⟨by kernel_rfl, by kernel_rfl, by kernel_rfl, by kernel_rfl, by kernel_rfl⟩,
   ⟨by kernel_rfl, by kernel_rfl, by kernel_rfl, by kernel_rfl, by kernel_rfl⟩,
   ⟨by kernel_rfl, by kernel_rfl, by kernel_rfl, by kernel_rfl, by kernel_rfl⟩,
   ⟨by kernel_rfl, by kernel_rfl, by kernel_rfl, by kernel_rfl, by kernel_rfl⟩,
   ⟨by kernel_rfl, by kernel_rfl, by kernel_rfl, by kernel_rfl, by kernel_rfl⟩,
   ⟨by kernel_rfl, by kernel_rfl, by kernel_rfl, by kernel_rfl, by kernel_rfl⟩,
   ⟨by kernel_rfl, by kernel_rfl, by kernel_rfl, by kernel_rfl, by kernel_rfl⟩, trivial⟩
def hl : List (Nat × Hint) := [(4, ⟨([], [], []), [(8, [0, 36, 3, 3, 4, 3, 5, 3, 6, 40, 7, 3, 8, 3, 24, 36, 25, 3, 26, 3]), (12, [0, 36, 3, 3, 4, 3, 5, 3, 6, 40, 7, 3, 8, 3, 10, 0, 24, 36, 25, 3, 26, 3, 39, 41, 40, 3, 41, 3])], [], []⟩),
  (5, ⟨([], [], []), [(5, [0, 41, 11, 41, 12, 3, 13, 3])], [], []⟩),
  (7, ⟨([7, 64, 67], [16, 21, 29, 31, 35, 41, 47, 50, 52, 61, 69], []), [(5, [2, 0, 4, 54, 5, 9, 17, 3]), (15, [2, 0, 4, 54, 6, 3, 7, 23, 8, 3]), (28, [2, 0, 7, 23, 14, 3])], [(10, [2, 0, 4, 54]), (13, [2, 0, 4, 54, 6, 3]), (24, [2, 0, 4, 54, 7, 23])], []⟩),
  (8, ⟨([6, 36, 65, 70], [], []), [(13, [0, 9, 4, 0, 5, 3, 6, 29, 7, 3]), (27, [6, 29, 14, 3])], [], []⟩),
  (9, ⟨([], [], []), [(5, [0, 29, 1, 29, 5, 3])], [], []⟩),
  (10, ⟨([3, 13, 20], [], []), [(4, [3, 29, 7, 23, 8, 3, 9, 3])], [], []⟩),
  (11, ⟨([3, 9, 13, 20, 30, 34], [16, 23, 33, 38, 41], []), [(4, [1, 0, 3, 77, 10, 3]), (11, [3, 77, 24, 23, 25, 3, 26, 3])], [], []⟩),
  (12, ⟨([], [], []), [(3, [0, 36, 5, 36, 6, 3, 7, 3])], [], []⟩),
  (14, ⟨([], [], []), [(4, [3, 3, 4, 3, 5, 40, 11, 36, 12, 3, 13, 3]), (8, [3, 3, 4, 3, 5, 40, 7, 0, 11, 36, 12, 3, 13, 3, 25, 41, 26, 3, 27, 3])], [], []⟩),
  (15, ⟨([], [], []), [], [(7, [1, 0, 3, 4]), (9, [1, 0, 3, 4]), (11, [1, 0, 3, 4]), (13, [1, 0, 3, 4]), (15, [1, 0, 3, 4]), (17, [1, 0, 3, 4])], []⟩),
  (17, ⟨([3, 18, 23], [], []), [(4, [3, 41, 7, 36, 8, 3, 9, 3])], [(9, [3, 41, 6, 3, 7, 36, 8, 3, 9, 3])], []⟩),
  (18, ⟨([], [], []), [(4, [0, 36, 3, 9, 4, 3])], [(8, [0, 36, 3, 9, 4, 3])], []⟩),
  (19, ⟨([4, 24, 27], [], []), [(4, [0, 41, 2, 0, 4, 23, 5, 41])], [], []⟩),
  (21, ⟨([], [], []), [(5, [0, 41, 1, 41, 5, 3])], [], []⟩),
  (22, ⟨([3, 5, 12, 29, 30, 36], [], []), [(4, [0, 29, 3, 41, 4, 3])], [], []⟩),
  (24, ⟨([], [7], []), [], [], []⟩),
  (26, ⟨([], [14, 56, 63], []), [], [], [(1, [0, 54, 3, 3, 4, 3, 5, 3])]⟩),
  (28, ⟨([], [16, 24, 35], []), [], [], []⟩),
  (31, ⟨([], [], []), [(4, [2, 0, 4, 0, 9, 23, 10, 3, 11, 3])], [], []⟩),
  (32, ⟨([], [], []), [(6, [1, 0, 2, 0, 4, 3, 5, 3, 6, 3])], [(19, [1, 0, 2, 0, 4, 3, 5, 3, 6, 3, 7, 3])], []⟩),
  (34, ⟨([4, 7, 18, 21], [], []), [(5, [0, 9, 4, 41, 5, 9, 6, 3])], [], []⟩),
  (35, ⟨([], [], []), [(4, [0, 29, 4, 29, 5, 3])], [], []⟩),
  (36, ⟨([3, 13, 17], [], []), [(4, [3, 23, 7, 23, 8, 3, 9, 3])], [], []⟩),
  (37, ⟨([0, 5, 6, 7, 8], [], []), [], [], []⟩),
  (38, ⟨([0, 15, 20], [19, 23], []), [(4, [0, 77, 1, 3])], [], []⟩),
  (39, ⟨([0, 4, 9, 10, 11, 12], [7], []), [], [], []⟩),
  (40, ⟨([3], [14, 16], []), [(4, [3, 0, 6, 41, 7, 3, 8, 3])], [], []⟩),
  (42, ⟨([], [], []), [(5, [33, 124, 34, 3, 35, 3]), (8, [33, 124, 34, 3, 35, 3, 39, 41, 40, 3, 41, 3])], [], []⟩),
  (43, ⟨([5], [40, 50, 64, 75, 29, 87, 100, 102], []), [(19, [1, 0, 5, 0, 6, 125, 77, 41, 78, 3, 79, 3]), (24, [5, 0, 6, 125, 90, 41, 91, 3, 92, 3])], [(18, [1, 0, 5, 0, 6, 125])], []⟩),
  (47, ⟨([], [], []), [(6, [3, 41, 4, 3])], [], []⟩),
  (48, ⟨([], [], []), [(5, [1, 9, 5, 0, 6, 9, 7, 3]), (9, [1, 9, 5, 0, 6, 9, 7, 3, 8, 4, 9, 3])], [], []⟩),
  (49, ⟨([], [], []), [(3, [0, 41, 3, 3])], [], []⟩),
  (53, ⟨([8], [57, 61, 70, 72, 74], []), [(13, [0, 41, 1, 9, 5, 3, 39, 41, 40, 3, 41, 3]), (23, [1, 9, 8, 0, 63, 41, 64, 3, 65, 3])], [(12, [0, 41, 1, 9, 5, 3]), (11, [0, 41, 1, 9, 5, 3]), (17, [0, 41, 1, 9, 5, 3, 7, 9, 39, 41, 40, 3, 41, 3])], []⟩),
  (56, ⟨([], [], []), [(5, [0, 41, 1, 41, 12, 3, 13, 3])], [], []⟩),
  (57, ⟨([3, 13, 24, 25, 28], [], []), [(4, [3, 41, 7, 23, 8, 3, 9, 3])], [], []⟩),
  (60, ⟨([], [], []), [], [(3, [0, 54, 1, 3])], []⟩),
  (61, ⟨([], [13, 26], []), [], [(6, [0, 54, 7, 3])], []⟩),
  (65, ⟨([], [9], []), [(7, [2, 0, 3, 0])], [], []⟩),
  (66, ⟨([], [], []), [(6, [1, 9, 17, 23, 18, 3, 19, 3])], [], []⟩),
  (67, ⟨([], [], []), [], [(6, [2, 0, 3, 0, 4, 0, 5, 3, 7, 3])], []⟩),
  (72, ⟨([], [], []), [(5, [0, 29, 1, 9, 5, 3])], [], []⟩),
  (73, ⟨([5, 8, 27, 30, 31, 37, 40, 43], [], []), [(5, [0, 29, 3, 0, 5, 29, 6, 4, 7, 3])], [(10, [0, 29, 3, 0, 5, 29, 6, 4, 7, 3])], []⟩),
  (74, ⟨([0, 9, 10, 11, 12], [7], []), [], [], []⟩),
  (76, ⟨([1], [6], []), [], [], []⟩),
  (78, ⟨([3, 6, 11, 19], [], []), [(4, [3, 57, 7, 43, 8, 3])], [], []⟩),
  (79, ⟨([], [], []), [], [(13, [1, 0, 3, 4]), (12, [1, 0, 3, 4, 40, 4])], []⟩),
  (80, ⟨([3, 6, 17, 23, 26], [], []), [(5, [0, 9, 3, 41, 4, 3, 5, 3])], [], []⟩),
  (81, ⟨([], [], []), [(5, [0, 9, 3, 3])], [], []⟩),
  (82, ⟨([], [], []), [(3, [0, 9, 3, 3])], [], []⟩),
  (83, ⟨([], [5, 24], []), [], [(4, [0, 117, 1, 3])], []⟩),
  (86, ⟨([], [], [65]), [(12, [0, 9, 1, 9, 2, 3, 3, 3, 9, 41, 10, 3])], [(8, [0, 9, 1, 9, 2, 3, 3, 3]), (18, [0, 9, 9, 41, 10, 3])], []⟩),
  (90, ⟨([], [7], []), [], [], []⟩),
  (91, ⟨([], [], []), [(5, [0, 9, 16, 3, 17, 3])], [], []⟩),
  (94, ⟨([6, 24, 31, 33], [24], []), [(4, [0, 153, 3, 3, 9, 153, 10, 3, 11, 3]), (12, [6, 23, 25, 153, 26, 3, 27, 3])], [], []⟩),
  (95, ⟨([5], [], []), [], [], []⟩),
  (96, ⟨([], [], []), [(3, [0, 29, 1, 9, 5, 3])], [], []⟩),
  (104, ⟨([], [], []), [], [(13, [1, 0, 2, 0, 3, 0]), (10, [1, 0, 2, 0, 3, 0])], []⟩),
  (105, ⟨([], [], []), [(4, [0, 5, 3, 9, 4, 3])], [], []⟩),
  (107, ⟨([], [], []), [(11, [5, 9, 6, 3, 47, 57, 48, 3, 49, 3])], [(9, [0, 9, 5, 9])], []⟩),
  (108, ⟨([], [17, 24, 32, 40], []), [], [], []⟩),
  (110, ⟨([], [], []), [(7, [0, 9, 1, 3, 6, 41, 7, 3])], [(5, [0, 9, 1, 3])], []⟩),
  (111, ⟨([], [], []), [(7, [0, 9, 1, 9, 5, 3])], [], []⟩),
  (113, ⟨([], [], []), [(3, [0, 41, 1, 35, 7, 3, 8, 3])], [], []⟩),
  (115, ⟨([], [], []), [(4, [0, 23, 1, 9, 2, 152, 8, 3, 9, 3, 10, 3])], [], []⟩),
  (119, ⟨([20], [4], []), [], [(4, [0, 999999, 1, 3])], []⟩),
  (121, ⟨([], [], [30, 38, 42]), [], [(9, [0, 2, 5, 0, 6, 171])], []⟩),
  (124, ⟨([], [], []), [], [(11, [0, 9, 1, 3, 2, 3, 8, 4]), (17, [2, 3, 8, 4, 9, 171])], []⟩),
  (129, ⟨([], [], []), [(3, [2, 3, 4, 0])], [], []⟩),
  (132, ⟨([], [], []), [(16, [0, 9, 1, 9, 5, 3, 6, 5, 7, 5, 8, 3, 9, 3, 10, 3])], [(22, [0, 9, 1, 9, 5, 3, 6, 5, 7, 5, 8, 3, 9, 3, 10, 3])], []⟩),
  (133, ⟨([], [], []), [(2, [0, 35]), (6, [0, 35])], [], []⟩),
  (138, ⟨([], [], []), [(2, [0, 57, 1, 171, 4, 3])], [(21, [0, 57, 4, 3, 12, 185]), (26, [0, 57, 4, 3, 12, 185])], []⟩),
  (139, ⟨([0, 95], [], [97, 100]), [(12, [0, 57, 1, 171, 3, 4, 4, 4, 10, 57, 11, 9, 12, 0, 13, 3, 14, 116, 15, 171, 16, 116]), (19, [0, 57, 1, 171, 3, 4, 4, 4, 10, 57, 11, 9, 12, 0, 13, 3, 17, 171])], [(4, [0, 57, 1, 171, 2, 3, 3, 4, 4, 4, 10, 57, 11, 9]), (8, [0, 57, 1, 171, 2, 3, 3, 4, 4, 4, 10, 57, 11, 9, 12, 0, 13, 3]), (26, [0, 57, 3, 4, 4, 4, 10, 57, 11, 9, 12, 0, 13, 3]), (29, [0, 57, 4, 4, 10, 57, 11, 9, 12, 0, 13, 3])], []⟩),
  (140, ⟨([], [], []), [(37, [1, 3, 8, 4, 9, 9, 10, 171, 11, 171, 12, 4, 13, 171, 99, 57, 100, 3, 101, 3])], [(22, [0, 9, 1, 3, 2, 3, 8, 4, 9, 9]), (26, [0, 9, 1, 3, 2, 3, 8, 4, 9, 9]), (33, [0, 9, 1, 3, 2, 3, 8, 4, 9, 9, 10, 171]), (47, [1, 3, 8, 4, 9, 9, 10, 171, 11, 171, 12, 4, 13, 171, 16, 5, 99, 57, 100, 3, 101, 3])], []⟩),
  (147, ⟨([], [], []), [(6, [0, 9, 1, 9, 5, 185, 6, 185, 7, 3, 8, 185, 9, 3]), (12, [0, 9, 1, 9, 5, 185, 6, 185, 7, 3, 8, 185, 10, 3])], [], []⟩),
  (151, ⟨([], [], []), [], [(5, [0, 171, 2, 3]), (8, [0, 171, 2, 3]), (11, [0, 171, 2, 3])], []⟩),
  (156, ⟨([], [], []), [(11, [0, 9, 3, 21, 4, 3, 5, 4])], [(6, [0, 9, 3, 21, 4, 3]), (11, [0, 9, 3, 21, 4, 3, 5, 4])], []⟩),
  (158, ⟨([], [], []), [(4, [0, 9, 4, 185, 5, 3]), (9, [4, 185, 6, 185, 7, 185, 8, 3])], [(13, [4, 185, 6, 185, 7, 185, 8, 3])], []⟩)]
def hasc (k : Nat) : List (Nat × Hint) → Hint
  | [] => ⟨([], [], []), [], [], []⟩
  | (u, x) :: l => bif Nat.beq u k then x else hasc k l
def H (f : Nat) : Hint := hasc f hl
def ov : Nat → Option (Bool × Sh × HSh × Option HSh)
  | 23 => some (false, .ptr 0 0, [.typed 100 c99], none)
  | 119 => some (true, .own 62 2 c61 0, [.tail], none)
  | 74 => some (false, .tup (.cons (.p (.i .i64)) (.cons (.p .er) .nil)), [], none)
  | 75 => some (false, .p .s, [], some [.cells 119 (.cons (.np 0 0) (.cons (.p (.sl 1 .u)) .nil)), .tail])
  | 90 => some (false, .fn 133 (.cons (.ptr 1 0) (.cons (.ptr 0 0) (.cons (.ptr 2 0) .nil))), [.typed 9 .s, .typed 9 .s, .typed 3 (.i .i64)], none)
  | 114 => some (false, .fn 133 (.cons (.ptr 1 0) (.cons (.ptr 0 0) (.cons (.ptr 2 0) .nil))), [.typed 9 .s, .typed 9 .s, .typed 3 (.i .i64)], none)
  | _ => none
theorem mixed : (Tryd.prog).follows .mixedOrders = true := by kernel_rfl
end Go.Proofs.YtmjkflppajienaaDoor.R
