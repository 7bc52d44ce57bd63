/- The types of the program's functions as codes, what is asked of each, and what is said beside each function's code; no condition but the typed premises. -/
import Derived.Test.YtmjkflppajienaaGreatDoorProg
import Derived.Test.YtmjkflppajienaaGreatDoorRY
import Derived.KernelRfl
namespace Go.Proofs.YtmjkflppajienaaGreatDoor.R
open Go
set_option maxRecDepth 100000
abbrev c7 : Ty := .pr (.i .i64) (.pr (.i .i64) (.pr .b (.pr (.i .u8) .un)))
abbrev c13 : Ty := .pr .s (.pr (.i .u64) .un)
abbrev c31 : Ty := .pr (.i .i64) (.pr .s (.pr .s (.pr (.i .i64) (.pr (.sl 1 .s) (.pr (.sl 1 .s) (.pr (.ar 32 (.i .u8)) (.pr (.i .i64) .un)))))))
abbrev c50 : Ty := .pr .s (.pr (.sl 1 .s) .un)
abbrev c37 : Ty := .pr (.sl 2 c50) .un
abbrev c108 : Ty := .pr (.i .i64) (.pr (.sl 1 .s) (.pr (.sl 1 .s) .un))
abbrev c120 : Ty := .pr (.sl 1 (.i .u8)) .un
abbrev c165 : Ty := .pr .s (.pr (.i .i64) (.pr (.i .i64) .un))
abbrev c195 : Ty := .un
abbrev c199 : Ty := .pr c195 (.pr (.i .u32) .un)
abbrev c201 : Ty := .pr (.i .i32) (.pr (.i .u32) .un)
abbrev c203 : Ty := .pr c195 (.pr c201 .un)
abbrev c205 : Ty := .pr c195 (.pr c199 (.pr c203 .un))
abbrev c242 : Ty := .pr .s (.pr .s (.pr .er .un))
abbrev c246 : Ty := .pr (.i .u8) (.pr (.i .u8) .un)
abbrev c293 : Ty := .pr .s (.pr (.ar 256 (.i .i64)) (.pr (.sl 1 (.i .i64)) .un))
abbrev c275 : Ty := .pr (.pt c293) (.pr .s .un)
abbrev c260 : Ty := .pr (.ar 256 (.sl 1 (.i .u8))) (.pr (.sl 1 .s) .un)
abbrev c266 : Ty := .pr .s .un
/-- runtime.boundsError: x, y, signed, code -/
abbrev S7 : Type := Int × Int × Bool × Int × Unit
/-- runtime.errorAddressString: msg, addr -/
abbrev S13 : Type := ByteArray × Int × Unit
/-- quitclaim/api.Op: Kind, Path, To, At, Old, New, Key, Depth -/
abbrev S31 : Type := Int × ByteArray × ByteArray × Int × List ByteArray × List ByteArray × Vec Int 32 × Int × Unit
/-- quitclaim/quitclaimref14.File: Path, Lines -/
abbrev S50 : Type := ByteArray × List ByteArray × Unit
/-- quitclaim/tree.Tree: files -/
abbrev S37 : Type := List S50 × Unit
/-- quitclaim/quitclaimref11.Hunk: At, Old, New -/
abbrev S108 : Type := Int × List ByteArray × List ByteArray × Unit
/-- quitclaim/pack.Writer: b -/
abbrev S120 : Type := List Int × Unit
/-- quitclaim/pack.Reader: s, at, e -/
abbrev S165 : Type := ByteArray × Int × Int × Unit
/-- sync.noCopy:  -/
abbrev S195 : Type := Unit
/-- sync/atomic.Bool: _, v -/
abbrev S199 : Type := S195 × Int × Unit
/-- internal/sync.Mutex: state, sema -/
abbrev S201 : Type := Int × Int × Unit
/-- sync.Mutex: _, mu -/
abbrev S203 : Type := S195 × S201 × Unit
/-- sync.Once: _, done, m -/
abbrev S205 : Type := S195 × S199 × S203 × Unit
/-- strconv.NumError: Func, Num, Err -/
abbrev S242 : Type := ByteArray × ByteArray × Bool × Unit
/-- unicode/utf8.acceptRange: lo, hi -/
abbrev S246 : Type := Int × Int × Unit
/-- strings.stringFinder: pattern, badCharSkip, goodSuffixSkip -/
abbrev S293 : Type := ByteArray × Vec Int 256 × List Int × Unit
/-- strings.singleStringReplacer: finder, value -/
abbrev S275 : Type := Option S293 × ByteArray × Unit
/-- strings.byteStringReplacer: replacements, toReplace -/
abbrev S260 : Type := Vec (List Int) 256 × List ByteArray × Unit
/-- errors.errorString: s -/
abbrev S266 : Type := ByteArray × Unit
def ti1 : TI := ⟨1, 8, .ot, [.s .nilFunc], none⟩
def ti2 : TI := ⟨1, 8, .int .i64, (Ty.enc (.i .i64) (Ty.dflt (.i .i64))).cells, some (.i .i64)⟩
def ti3 : TI := ⟨1, 8, .int .i64, (Ty.enc (.i .i64) (Ty.dflt (.i .i64))).cells, some (.i .i64)⟩
def ti4 : TI := ⟨1, 1, .bl, (Ty.enc .b (Ty.dflt .b)).cells, some .b⟩
def ti5 : TI := ⟨1, 1, .int .u8, (Ty.enc (.i .u8) (Ty.dflt (.i .u8))).cells, some (.i .u8)⟩
def ti6 : TI := ⟨1, 1, .int .u8, (Ty.enc (.i .u8) (Ty.dflt (.i .u8))).cells, some (.i .u8)⟩
def ti7 : TI := ⟨4, 24, .st [(0, 2), (1, 3), (2, 4), (3, 6)], ((Ty.enc (.i .i64) (Ty.dflt (.i .i64))).cells ++ (Ty.enc (.i .i64) (Ty.dflt (.i .i64))).cells ++ (Ty.enc .b (Ty.dflt .b)).cells ++ (Ty.enc (.i .u8) (Ty.dflt (.i .u8))).cells), some c7⟩
def ti8 : TI := ⟨4, 24, .st [(0, 2), (1, 3), (2, 4), (3, 6)], ((Ty.enc (.i .i64) (Ty.dflt (.i .i64))).cells ++ (Ty.enc (.i .i64) (Ty.dflt (.i .i64))).cells ++ (Ty.enc .b (Ty.dflt .b)).cells ++ (Ty.enc (.i .u8) (Ty.dflt (.i .u8))).cells), some c7⟩
def ti9 : TI := ⟨1, 16, .str, (Ty.enc .s (Ty.dflt .s)).cells, some .s⟩
def ti10 : TI := ⟨1, 16, .str, (Ty.enc .s (Ty.dflt .s)).cells, some .s⟩
def ti11 : TI := ⟨1, 16, .str, (Ty.enc .s (Ty.dflt .s)).cells, some .s⟩
def ti12 : TI := ⟨1, 8, .int .u64, (Ty.enc (.i .u64) (Ty.dflt (.i .u64))).cells, some (.i .u64)⟩
def ti13 : TI := ⟨2, 24, .st [(0, 9), (1, 12)], ((Ty.enc .s (Ty.dflt .s)).cells ++ (Ty.enc (.i .u64) (Ty.dflt (.i .u64))).cells), some c13⟩
def ti14 : TI := ⟨2, 24, .st [(0, 9), (1, 12)], ((Ty.enc .s (Ty.dflt .s)).cells ++ (Ty.enc (.i .u64) (Ty.dflt (.i .u64))).cells), some c13⟩
def ti15 : TI := ⟨1, 8, .ot, [.s (.pointer none)], none⟩
def ti16 : TI := ⟨1, 8, .ot, [.s (.pointer none)], none⟩
def ti17 : TI := ⟨1, 8, .ot, [.s (.pointer none)], none⟩
def ti18 : TI := ⟨1, 8, .st [(0, 17)], ([.s (.pointer none)]), none⟩
def ti19 : TI := ⟨1, 8, .st [(0, 17)], ([.s (.pointer none)]), none⟩
def ti20 : TI := ⟨1, 16, .ot, [.s .nilIface], none⟩
def ti21 : TI := ⟨1, 4, .int .i32, (Ty.enc (.i .i32) (Ty.dflt (.i .i32))).cells, some (.i .i32)⟩
def ti22 : TI := ⟨1, 8, .ot, [.s .nilFunc], none⟩
def ti23 : TI := ⟨1, 8, .ot, [.s .nilFunc], none⟩
def ti24 : TI := ⟨1, 8, .ot, [.s .nilFunc], none⟩
def ti25 : TI := ⟨1, 24, .sl 9, [.s (.slice none 0 0)], some (.sl 1 .s)⟩
def ti26 : TI := ⟨1, 8, .ot, [.s .nilFunc], none⟩
def ti27 : TI := ⟨1, 8, .ot, [.s .nilFunc], none⟩
def ti28 : TI := ⟨1, 24, .sl 32, [.s (.slice none 0 0)], some (.sl 39 c31)⟩
def ti29 : TI := ⟨32, 32, .ar 32 5, (Ty.enc (.ar 32 (.i .u8)) (Ty.dflt (.ar 32 (.i .u8)))).cells, some (.ar 32 (.i .u8))⟩
def ti30 : TI := ⟨32, 32, .ar 32 5, (Ty.enc (.ar 32 (.i .u8)) (Ty.dflt (.ar 32 (.i .u8)))).cells, some (.ar 32 (.i .u8))⟩
def ti31 : TI := ⟨39, 136, .st [(0, 3), (1, 9), (2, 9), (3, 3), (4, 25), (5, 25), (6, 30), (38, 3)], ((Ty.enc (.i .i64) (Ty.dflt (.i .i64))).cells ++ (Ty.enc .s (Ty.dflt .s)).cells ++ (Ty.enc .s (Ty.dflt .s)).cells ++ (Ty.enc (.i .i64) (Ty.dflt (.i .i64))).cells ++ [.s (.slice none 0 0)] ++ [.s (.slice none 0 0)] ++ (Ty.enc (.ar 32 (.i .u8)) (Ty.dflt (.ar 32 (.i .u8)))).cells ++ (Ty.enc (.i .i64) (Ty.dflt (.i .i64))).cells), some c31⟩
def ti32 : TI := ⟨39, 136, .st [(0, 3), (1, 9), (2, 9), (3, 3), (4, 25), (5, 25), (6, 30), (38, 3)], ((Ty.enc (.i .i64) (Ty.dflt (.i .i64))).cells ++ (Ty.enc .s (Ty.dflt .s)).cells ++ (Ty.enc .s (Ty.dflt .s)).cells ++ (Ty.enc (.i .i64) (Ty.dflt (.i .i64))).cells ++ [.s (.slice none 0 0)] ++ [.s (.slice none 0 0)] ++ (Ty.enc (.ar 32 (.i .u8)) (Ty.dflt (.ar 32 (.i .u8)))).cells ++ (Ty.enc (.i .i64) (Ty.dflt (.i .i64))).cells), some c31⟩
def ti33 : TI := ⟨1, 8, .ot, [.s .nilFunc], none⟩
def ti34 : TI := ⟨1, 8, .ot, [.s .nilFunc], none⟩
def ti35 : TI := ⟨1, 8, .ot, [.s .nilFunc], none⟩
def ti36 : TI := ⟨1, 24, .sl 88, [.s (.slice none 0 0)], some (.sl 2 c50)⟩
def ti37 : TI := ⟨1, 24, .st [(0, 36)], ([.s (.slice none 0 0)]), some c37⟩
def ti38 : TI := ⟨1, 24, .st [(0, 36)], ([.s (.slice none 0 0)]), some c37⟩
def ti39 : TI := ⟨1, 8, .int .i64, (Ty.enc (.i .i64) (Ty.dflt (.i .i64))).cells, some (.i .i64)⟩
def ti41 : TI := ⟨1, 8, .ot, [.s .nilFunc], none⟩
def ti42 : TI := ⟨1, 24, .sl 51, [.s (.slice none 0 0)], some (.sl 2 c50)⟩
def ti44 : TI := ⟨1, 8, .ot, [.s .nilFunc], none⟩
def ti46 : TI := ⟨1, 8, .ot, [.s .nilFunc], none⟩
def ti48 : TI := ⟨1, 8, .ot, [.s .nilFunc], none⟩
def ti49 : TI := ⟨1, 8, .ot, [.s .nilFunc], none⟩
def ti50 : TI := ⟨2, 40, .st [(0, 9), (1, 25)], ((Ty.enc .s (Ty.dflt .s)).cells ++ [.s (.slice none 0 0)]), some c50⟩
def ti51 : TI := ⟨2, 40, .st [(0, 9), (1, 25)], ((Ty.enc .s (Ty.dflt .s)).cells ++ [.s (.slice none 0 0)]), some c50⟩
def ti52 : TI := ⟨1, 8, .ot, [.s .nilFunc], none⟩
def ti53 : TI := ⟨1, 8, .ot, [.s .nilFunc], none⟩
def ti54 : TI := ⟨1, 8, .ot, [.s .nilFunc], none⟩
def ti55 : TI := ⟨1, 8, .ot, [.s .nilFunc], none⟩
def ti56 : TI := ⟨1, 8, .ot, [.s .nilFunc], none⟩
def ti58 : TI := ⟨1, 8, .ot, [.s .nilFunc], none⟩
def ti60 : TI := ⟨1, 8, .ot, [.s .nilFunc], none⟩
def ti61 : TI := ⟨1, 8, .ot, [.s .nilFunc], none⟩
def ti62 : TI := ⟨1, 8, .ot, [.s .nilFunc], none⟩
def ti63 : TI := ⟨1, 8, .ot, [.s .nilFunc], none⟩
def ti65 : TI := ⟨1, 8, .ot, [.s .nilFunc], none⟩
def ti66 : TI := ⟨1, 8, .ot, [.s .nilFunc], none⟩
def ti67 : TI := ⟨1, 2, .int .u16, (Ty.enc (.i .u16) (Ty.dflt (.i .u16))).cells, some (.i .u16)⟩
def ti68 : TI := ⟨1, 24, .sl 5, [.s (.slice none 0 0)], some (.sl 1 (.i .u8))⟩
def ti69 : TI := ⟨1, 8, .ot, [.s .nilFunc], none⟩
def ti70 : TI := ⟨1, 8, .ot, [.s .nilFunc], none⟩
def ti71 : TI := ⟨1, 8, .ot, [.s .nilFunc], none⟩
def ti72 : TI := ⟨1, 8, .ot, [.s .nilFunc], none⟩
def ti73 : TI := ⟨1, 8, .ot, [.s .nilFunc], none⟩
def ti75 : TI := ⟨1, 8, .ot, [.s .nilFunc], none⟩
def ti76 : TI := ⟨1, 8, .ot, [.s .nilFunc], none⟩
def ti77 : TI := ⟨1, 8, .ot, [.s .nilFunc], none⟩
def ti78 : TI := ⟨1, 8, .ot, [.s .nilFunc], none⟩
def ti79 : TI := ⟨1, 8, .ot, [.s .nilFunc], none⟩
def ti81 : TI := ⟨1, 8, .ot, [.s .nilFunc], none⟩
def ti82 : TI := ⟨1, 24, .sl 25, [.s (.slice none 0 0)], some (.sl 1 (.sl 1 .s))⟩
def ti83 : TI := ⟨1, 8, .ot, [.s .nilFunc], none⟩
def ti85 : TI := ⟨1, 8, .ot, [.s .nilFunc], none⟩
def ti87 : TI := ⟨1, 8, .ot, [.s .nilFunc], none⟩
def ti88 : TI := ⟨2, 40, .st [(0, 9), (1, 25)], ((Ty.enc .s (Ty.dflt .s)).cells ++ [.s (.slice none 0 0)]), some c50⟩
def ti89 : TI := ⟨1, 8, .ot, [.s .nilFunc], none⟩
def ti90 : TI := ⟨1, 8, .ot, [.s .nilFunc], none⟩
def ti91 : TI := ⟨1, 8, .ot, [.s (.pointer none)], none⟩
def ti92 : TI := ⟨2, 32, .st [(0, 91), (1, 68)], ([.s (.pointer none)] ++ [.s (.slice none 0 0)]), none⟩
def ti93 : TI := ⟨2, 32, .st [(0, 91), (1, 68)], ([.s (.pointer none)] ++ [.s (.slice none 0 0)]), none⟩
def ti94 : TI := ⟨1, 16, .ot, (Ty.enc .er (Ty.dflt .er)).cells, some .er⟩
def ti95 : TI := ⟨1, 16, .ot, (Ty.enc .er (Ty.dflt .er)).cells, some .er⟩
def ti97 : TI := ⟨1, 8, .ot, [.s .nilFunc], none⟩
def ti98 : TI := ⟨1, 8, .ot, [.s .nilFunc], none⟩
def ti99 : TI := ⟨1, 8, .ot, [.s .nilFunc], none⟩
def ti100 : TI := ⟨1, 8, .ot, [.s .nilFunc], none⟩
def ti101 : TI := ⟨1, 8, .ot, [.s .nilFunc], none⟩
def ti102 : TI := ⟨7, 112, .ar 7 9, (Ty.enc (.ar 7 .s) (Ty.dflt (.ar 7 .s))).cells, some (.ar 7 .s)⟩
def ti103 : TI := ⟨1, 8, .ot, [.s .nilFunc], none⟩
def ti104 : TI := ⟨1, 8, .ot, [.s .nilFunc], none⟩
def ti105 : TI := ⟨1, 8, .ot, [.s .nilFunc], none⟩
def ti106 : TI := ⟨1, 8, .ot, [.s .nilFunc], none⟩
def ti107 : TI := ⟨1, 8, .ot, [.s .nilFunc], none⟩
def ti108 : TI := ⟨3, 56, .st [(0, 3), (1, 25), (2, 25)], ((Ty.enc (.i .i64) (Ty.dflt (.i .i64))).cells ++ [.s (.slice none 0 0)] ++ [.s (.slice none 0 0)]), some c108⟩
def ti109 : TI := ⟨3, 56, .st [(0, 3), (1, 25), (2, 25)], ((Ty.enc (.i .i64) (Ty.dflt (.i .i64))).cells ++ [.s (.slice none 0 0)] ++ [.s (.slice none 0 0)]), some c108⟩
def ti110 : TI := ⟨1, 8, .ot, [.s .nilFunc], none⟩
def ti111 : TI := ⟨1, 8, .ot, [.s .nilFunc], none⟩
def ti112 : TI := ⟨1, 8, .ot, [.s .nilFunc], none⟩
def ti113 : TI := ⟨1, 8, .ot, [.s .nilFunc], none⟩
def ti114 : TI := ⟨1, 8, .ot, [.s .nilFunc], none⟩
def ti115 : TI := ⟨1, 8, .ot, (Ty.enc (.pt c31) (Ty.dflt (.pt c31))).cells, some (.pt c31)⟩
def ti117 : TI := ⟨1, 8, .ot, [.s .nilFunc], none⟩
def ti118 : TI := ⟨1, 8, .ot, [.s .nilFunc], none⟩
def ti119 : TI := ⟨1, 8, .ot, (Ty.enc (.pt c120) (Ty.dflt (.pt c120))).cells, some (.pt c120)⟩
def ti120 : TI := ⟨1, 24, .st [(0, 68)], ([.s (.slice none 0 0)]), some c120⟩
def ti121 : TI := ⟨1, 24, .st [(0, 68)], ([.s (.slice none 0 0)]), some c120⟩
def ti122 : TI := ⟨1, 8, .ot, [.s .nilFunc], none⟩
def ti123 : TI := ⟨1, 8, .ot, [.s .nilFunc], none⟩
def ti124 : TI := ⟨1, 8, .ot, [.s .nilFunc], none⟩
def ti125 : TI := ⟨1, 8, .ot, (Ty.enc (.pt c165) (Ty.dflt (.pt c165))).cells, some (.pt c165)⟩
def ti126 : TI := ⟨1, 8, .ot, [.s .nilFunc], none⟩
def ti127 : TI := ⟨1, 8, .ot, [.s .nilFunc], none⟩
def ti128 : TI := ⟨1, 8, .ot, [.s .nilFunc], none⟩
def ti129 : TI := ⟨1, 8, .ot, [.s .nilFunc], none⟩
def ti130 : TI := ⟨1, 8, .ot, [.s .nilFunc], none⟩
def ti132 : TI := ⟨1, 8, .ot, [.s .nilFunc], none⟩
def ti133 : TI := ⟨1, 8, .ot, [.s .nilFunc], none⟩
def ti134 : TI := ⟨1, 8, .ot, [.s .nilFunc], none⟩
def ti135 : TI := ⟨1, 8, .ot, [.s .nilFunc], none⟩
def ti136 : TI := ⟨1, 8, .ot, [.s .nilFunc], none⟩
def ti137 : TI := ⟨1, 8, .ot, [.s .nilFunc], none⟩
def ti138 : TI := ⟨1, 8, .ot, [.s .nilFunc], none⟩
def ti139 : TI := ⟨1, 8, .ot, [.s .nilFunc], none⟩
def ti140 : TI := ⟨1, 8, .ot, [.s .nilFunc], none⟩
def ti141 : TI := ⟨1, 8, .ot, [.s .nilFunc], none⟩
def ti142 : TI := ⟨1, 24, .sl 4, [.s (.slice none 0 0)], some (.sl 1 .b)⟩
def ti143 : TI := ⟨1, 8, .ot, [.s .nilFunc], none⟩
def ti144 : TI := ⟨1, 8, .ot, [.s .nilFunc], none⟩
def ti145 : TI := ⟨1, 8, .ot, [.s .nilFunc], none⟩
def ti146 : TI := ⟨1, 8, .ot, [.s .nilFunc], none⟩
def ti148 : TI := ⟨1, 8, .ot, [.s .nilFunc], none⟩
def ti150 : TI := ⟨1, 8, .ot, [.s .nilFunc], none⟩
def ti151 : TI := ⟨1, 8, .ot, [.s .nilFunc], none⟩
def ti152 : TI := ⟨1, 8, .ot, [.s .nilFunc], none⟩
def ti153 : TI := ⟨1, 8, .ot, [.s .nilFunc], none⟩
def ti154 : TI := ⟨1, 8, .ot, [.s .nilFunc], none⟩
def ti155 : TI := ⟨1, 8, .ot, (Ty.enc (.pt (.i .u8)) (Ty.dflt (.pt (.i .u8)))).cells, some (.pt (.i .u8))⟩
def ti156 : TI := ⟨1, 8, .ot, [.s .nilFunc], none⟩
def ti157 : TI := ⟨1, 8, .int .u64, (Ty.enc (.i .u64) (Ty.dflt (.i .u64))).cells, some (.i .u64)⟩
def ti158 : TI := ⟨6, 6, .ar 6 4, (Ty.enc (.ar 6 .b) (Ty.dflt (.ar 6 .b))).cells, some (.ar 6 .b)⟩
def ti159 : TI := ⟨1, 8, .ot, [.s .nilFunc], none⟩
def ti160 : TI := ⟨1, 8, .ot, [.s .nilFunc], none⟩
def ti161 : TI := ⟨7, 56, .ar 7 3, (Ty.enc (.ar 7 (.i .i64)) (Ty.dflt (.ar 7 (.i .i64)))).cells, some (.ar 7 (.i .i64))⟩
def ti162 : TI := ⟨1, 8, .ot, [.s .nilFunc], none⟩
def ti164 : TI := ⟨1, 8, .ot, [.s .nilFunc], none⟩
def ti165 : TI := ⟨3, 32, .st [(0, 9), (1, 3), (2, 39)], ((Ty.enc .s (Ty.dflt .s)).cells ++ (Ty.enc (.i .i64) (Ty.dflt (.i .i64))).cells ++ (Ty.enc (.i .i64) (Ty.dflt (.i .i64))).cells), some c165⟩
def ti166 : TI := ⟨3, 32, .st [(0, 9), (1, 3), (2, 39)], ((Ty.enc .s (Ty.dflt .s)).cells ++ (Ty.enc (.i .i64) (Ty.dflt (.i .i64))).cells ++ (Ty.enc (.i .i64) (Ty.dflt (.i .i64))).cells), some c165⟩
def ti167 : TI := ⟨1, 8, .ot, [.s .nilFunc], none⟩
def ti168 : TI := ⟨1, 8, .ot, [.s .nilFunc], none⟩
def ti169 : TI := ⟨1, 8, .ot, [.s .nilFunc], none⟩
def ti170 : TI := ⟨1, 8, .ot, [.s .nilFunc], none⟩
def ti171 : TI := ⟨1, 8, .ot, [.s .nilFunc], none⟩
def ti172 : TI := ⟨1, 8, .ot, [.s .nilFunc], none⟩
def ti173 : TI := ⟨1, 8, .ot, [.s (.pointer none)], none⟩
def ti174 : TI := ⟨1, 8, .ot, [.s .nilFunc], none⟩
def ti175 : TI := ⟨1, 8, .ot, [.s .nilFunc], none⟩
def ti176 : TI := ⟨1, 8, .ot, [.s .nilFunc], none⟩
def ti177 : TI := ⟨1, 8, .ot, [.s .nilFunc], none⟩
def ti178 : TI := ⟨1, 8, .ot, [.s .nilFunc], none⟩
def ti179 : TI := ⟨1, 8, .ot, [.s .nilFunc], none⟩
def ti180 : TI := ⟨3, 56, .st [(0, 3), (1, 25), (2, 25)], ((Ty.enc (.i .i64) (Ty.dflt (.i .i64))).cells ++ [.s (.slice none 0 0)] ++ [.s (.slice none 0 0)]), some c108⟩
def ti181 : TI := ⟨1, 8, .ot, [.s .nilFunc], none⟩
def ti182 : TI := ⟨1, 8, .ot, [.s .nilFunc], none⟩
def ti183 : TI := ⟨1, 8, .ot, [.s .nilFunc], none⟩
def ti184 : TI := ⟨1, 8, .ot, [.s .nilFunc], none⟩
def ti185 : TI := ⟨1, 8, .ot, [.s .nilFunc], none⟩
def ti186 : TI := ⟨1, 8, .ot, [.s (.pointer none)], none⟩
def ti187 : TI := ⟨1, 8, .ot, [.s .nilFunc], none⟩
def ti188 : TI := ⟨1, 8, .ot, [.s .nilFunc], none⟩
def ti189 : TI := ⟨1, 8, .ot, [.s .nilFunc], none⟩
def ti190 : TI := ⟨1, 8, .ot, [.s .nilFunc], none⟩
def ti191 : TI := ⟨1, 8, .ot, [.s .nilFunc], none⟩
def ti193 : TI := ⟨1, 8, .ot, [.s .nilFunc], none⟩
def ti194 : TI := ⟨1, 8, .ot, [.s .nilFunc], none⟩
def ti198 : TI := ⟨1, 4, .int .u32, (Ty.enc (.i .u32) (Ty.dflt (.i .u32))).cells, some (.i .u32)⟩
def ti199 : TI := ⟨1, 4, .st [(0, 197), (0, 198)], (([]) ++ (Ty.enc (.i .u32) (Ty.dflt (.i .u32))).cells), some c199⟩
def ti200 : TI := ⟨1, 4, .st [(0, 197), (0, 198)], (([]) ++ (Ty.enc (.i .u32) (Ty.dflt (.i .u32))).cells), some c199⟩
def ti201 : TI := ⟨2, 8, .st [(0, 21), (1, 198)], ((Ty.enc (.i .i32) (Ty.dflt (.i .i32))).cells ++ (Ty.enc (.i .u32) (Ty.dflt (.i .u32))).cells), some c201⟩
def ti202 : TI := ⟨2, 8, .st [(0, 21), (1, 198)], ((Ty.enc (.i .i32) (Ty.dflt (.i .i32))).cells ++ (Ty.enc (.i .u32) (Ty.dflt (.i .u32))).cells), some c201⟩
def ti203 : TI := ⟨2, 8, .st [(0, 196), (0, 202)], (([]) ++ ((Ty.enc (.i .i32) (Ty.dflt (.i .i32))).cells ++ (Ty.enc (.i .u32) (Ty.dflt (.i .u32))).cells)), some c203⟩
def ti204 : TI := ⟨2, 8, .st [(0, 196), (0, 202)], (([]) ++ ((Ty.enc (.i .i32) (Ty.dflt (.i .i32))).cells ++ (Ty.enc (.i .u32) (Ty.dflt (.i .u32))).cells)), some c203⟩
def ti205 : TI := ⟨3, 12, .st [(0, 196), (0, 200), (1, 204)], (([]) ++ (([]) ++ (Ty.enc (.i .u32) (Ty.dflt (.i .u32))).cells) ++ (([]) ++ ((Ty.enc (.i .i32) (Ty.dflt (.i .i32))).cells ++ (Ty.enc (.i .u32) (Ty.dflt (.i .u32))).cells))), some c205⟩
def ti206 : TI := ⟨3, 12, .st [(0, 196), (0, 200), (1, 204)], (([]) ++ (([]) ++ (Ty.enc (.i .u32) (Ty.dflt (.i .u32))).cells) ++ (([]) ++ ((Ty.enc (.i .i32) (Ty.dflt (.i .i32))).cells ++ (Ty.enc (.i .u32) (Ty.dflt (.i .u32))).cells))), some c205⟩
def ti207 : TI := ⟨1, 16, .ot, [.s .nilIface], none⟩
def ti208 : TI := ⟨1, 16, .ot, [.s .nilIface], none⟩
def ti209 : TI := ⟨5, 56, .st [(0, 206), (3, 208), (4, 25)], ((([]) ++ (([]) ++ (Ty.enc (.i .u32) (Ty.dflt (.i .u32))).cells) ++ (([]) ++ ((Ty.enc (.i .i32) (Ty.dflt (.i .i32))).cells ++ (Ty.enc (.i .u32) (Ty.dflt (.i .u32))).cells))) ++ [.s .nilIface] ++ [.s (.slice none 0 0)]), none⟩
def ti210 : TI := ⟨5, 56, .st [(0, 206), (3, 208), (4, 25)], ((([]) ++ (([]) ++ (Ty.enc (.i .u32) (Ty.dflt (.i .u32))).cells) ++ (([]) ++ ((Ty.enc (.i .i32) (Ty.dflt (.i .i32))).cells ++ (Ty.enc (.i .u32) (Ty.dflt (.i .u32))).cells))) ++ [.s .nilIface] ++ [.s (.slice none 0 0)]), none⟩
def ti211 : TI := ⟨1, 8, .ot, [.s .nilFunc], none⟩
def ti212 : TI := ⟨1, 8, .ot, [.s .nilFunc], none⟩
def ti213 : TI := ⟨1, 8, .ot, [.s .nilFunc], none⟩
def ti214 : TI := ⟨1, 8, .ot, [.s .nilFunc], none⟩
def ti215 : TI := ⟨1, 8, .ot, [.s .nilFunc], none⟩
def ti216 : TI := ⟨1, 24, .sl 36, [.s (.slice none 0 0)], some (.sl 1 (.sl 2 c50))⟩
def ti217 : TI := ⟨1, 8, .ot, [.s .nilFunc], none⟩
def ti218 : TI := ⟨1, 8, .ot, [.s .nilFunc], none⟩
def ti219 : TI := ⟨1, 8, .ot, [.s .nilFunc], none⟩
def ti220 : TI := ⟨24, 24, .ar 24 5, (Ty.enc (.ar 24 (.i .u8)) (Ty.dflt (.ar 24 (.i .u8)))).cells, some (.ar 24 (.i .u8))⟩
def ti221 : TI := ⟨1, 8, .int .u64, (Ty.enc (.i .u64) (Ty.dflt (.i .u64))).cells, some (.i .u64)⟩
def ti222 : TI := ⟨1, 8, .ot, [.s .nilFunc], none⟩
def ti223 : TI := ⟨1, 8, .ot, [.s .nilFunc], none⟩
def ti225 : TI := ⟨1, 8, .ot, [.s .nilFunc], none⟩
def ti226 : TI := ⟨1, 8, .int .i64, (Ty.enc (.i .i64) (Ty.dflt (.i .i64))).cells, some (.i .i64)⟩
def ti228 : TI := ⟨1, 8, .ot, [.s .nilFunc], none⟩
def ti229 : TI := ⟨1, 8, .ot, (Ty.enc (.pt c242) (Ty.dflt (.pt c242))).cells, some (.pt c242)⟩
def ti230 : TI := ⟨1, 8, .ot, [.s .nilFunc], none⟩
def ti231 : TI := ⟨1, 8, .ot, [.s .nilFunc], none⟩
def ti232 : TI := ⟨1, 8, .ot, (Ty.enc (.pt c205) (Ty.dflt (.pt c205))).cells, some (.pt c205)⟩
def ti233 : TI := ⟨1, 8, .ot, [.s .nilFunc], none⟩
def ti234 : TI := ⟨1, 8, .ot, [.s .nilFunc], none⟩
def ti235 : TI := ⟨1, 8, .ot, [.s .nilFunc], none⟩
def ti236 : TI := ⟨1, 8, .ot, [.s .nilFunc], none⟩
def ti237 : TI := ⟨20, 160, .ar 20 221, (Ty.enc (.ar 20 (.i .u64)) (Ty.dflt (.ar 20 (.i .u64)))).cells, some (.ar 20 (.i .u64))⟩
def ti238 : TI := ⟨65, 65, .ar 65 5, (Ty.enc (.ar 65 (.i .u8)) (Ty.dflt (.ar 65 (.i .u8)))).cells, some (.ar 65 (.i .u8))⟩
def ti239 : TI := ⟨1, 8, .ot, [.s .nilFunc], none⟩
def ti241 : TI := ⟨1, 8, .ot, [.s .nilFunc], none⟩
def ti242 : TI := ⟨3, 48, .st [(0, 9), (1, 9), (2, 95)], ((Ty.enc .s (Ty.dflt .s)).cells ++ (Ty.enc .s (Ty.dflt .s)).cells ++ (Ty.enc .er (Ty.dflt .er)).cells), some c242⟩
def ti243 : TI := ⟨3, 48, .st [(0, 9), (1, 9), (2, 95)], ((Ty.enc .s (Ty.dflt .s)).cells ++ (Ty.enc .s (Ty.dflt .s)).cells ++ (Ty.enc .er (Ty.dflt .er)).cells), some c242⟩
def ti244 : TI := ⟨1, 8, .ot, [.s .nilFunc], none⟩
def ti245 : TI := ⟨256, 256, .ar 256 5, (Ty.enc (.ar 256 (.i .u8)) (Ty.dflt (.ar 256 (.i .u8)))).cells, some (.ar 256 (.i .u8))⟩
def ti246 : TI := ⟨2, 2, .st [(0, 5), (1, 5)], ((Ty.enc (.i .u8) (Ty.dflt (.i .u8))).cells ++ (Ty.enc (.i .u8) (Ty.dflt (.i .u8))).cells), some c246⟩
def ti247 : TI := ⟨2, 2, .st [(0, 5), (1, 5)], ((Ty.enc (.i .u8) (Ty.dflt (.i .u8))).cells ++ (Ty.enc (.i .u8) (Ty.dflt (.i .u8))).cells), some c246⟩
def ti248 : TI := ⟨32, 32, .ar 16 247, (Ty.enc (.ar 16 c246) (Ty.dflt (.ar 16 c246))).cells, some (.ar 16 c246)⟩
def ti249 : TI := ⟨1, 8, .ot, (Ty.enc (.pt c199) (Ty.dflt (.pt c199))).cells, some (.pt c199)⟩
def ti250 : TI := ⟨1, 8, .ot, [.s .nilFunc], none⟩
def ti251 : TI := ⟨1, 8, .ot, (Ty.enc (.pt (.i .u32)) (Ty.dflt (.pt (.i .u32)))).cells, some (.pt (.i .u32))⟩
def ti252 : TI := ⟨1, 8, .ot, [.s .nilFunc], none⟩
def ti253 : TI := ⟨1, 8, .ot, (Ty.enc (.pt c275) (Ty.dflt (.pt c275))).cells, some (.pt c275)⟩
def ti254 : TI := ⟨1, 8, .ot, [.s .nilFunc], none⟩
def ti255 : TI := ⟨1, 8, .ot, [.s (.pointer none)], none⟩
def ti256 : TI := ⟨1, 8, .ot, [.s .nilFunc], none⟩
def ti257 : TI := ⟨256, 256, .ar 256 5, (Ty.enc (.ar 256 (.i .u8)) (Ty.dflt (.ar 256 (.i .u8)))).cells, some (.ar 256 (.i .u8))⟩
def ti258 : TI := ⟨1, 8, .ot, (Ty.enc (.pt (.ar 256 (.i .u8))) (Ty.dflt (.pt (.ar 256 (.i .u8))))).cells, some (.pt (.ar 256 (.i .u8)))⟩
def ti259 : TI := ⟨256, 6144, .ar 256 68, (Ty.enc (.ar 256 (.sl 1 (.i .u8))) (Ty.dflt (.ar 256 (.sl 1 (.i .u8))))).cells, some (.ar 256 (.sl 1 (.i .u8)))⟩
def ti260 : TI := ⟨257, 6168, .st [(0, 259), (256, 25)], ((Ty.enc (.ar 256 (.sl 1 (.i .u8))) (Ty.dflt (.ar 256 (.sl 1 (.i .u8))))).cells ++ [.s (.slice none 0 0)]), some c260⟩
def ti261 : TI := ⟨257, 6168, .st [(0, 259), (256, 25)], ((Ty.enc (.ar 256 (.sl 1 (.i .u8))) (Ty.dflt (.ar 256 (.sl 1 (.i .u8))))).cells ++ [.s (.slice none 0 0)]), some c260⟩
def ti262 : TI := ⟨1, 8, .ot, (Ty.enc (.pt c260) (Ty.dflt (.pt c260))).cells, some (.pt c260)⟩
def ti263 : TI := ⟨1, 8, .ot, [.s .nilFunc], none⟩
def ti264 : TI := ⟨1, 8, .ot, [.s .nilFunc], none⟩
def ti265 : TI := ⟨1, 8, .ot, (Ty.enc (.pt c266) (Ty.dflt (.pt c266))).cells, some (.pt c266)⟩
def ti266 : TI := ⟨1, 16, .st [(0, 9)], ((Ty.enc .s (Ty.dflt .s)).cells), some c266⟩
def ti267 : TI := ⟨1, 16, .st [(0, 9)], ((Ty.enc .s (Ty.dflt .s)).cells), some c266⟩
def ti269 : TI := ⟨1, 8, .ot, [.s .nilFunc], none⟩
def ti270 : TI := ⟨1, 8, .ot, (Ty.enc (.pt c203) (Ty.dflt (.pt c203))).cells, some (.pt c203)⟩
def ti271 : TI := ⟨1, 8, .ot, [.s .nilFunc], none⟩
def ti272 : TI := ⟨1, 8, .ot, [.s .nilFunc], none⟩
def ti273 : TI := ⟨1, 8, .ot, (Ty.enc (.pt c293) (Ty.dflt (.pt c293))).cells, some (.pt c293)⟩
def ti274 : TI := ⟨1, 8, .ot, [.s .nilFunc], none⟩
def ti275 : TI := ⟨2, 24, .st [(0, 273), (1, 9)], ((Ty.enc (.pt c293) (Ty.dflt (.pt c293))).cells ++ (Ty.enc .s (Ty.dflt .s)).cells), some c275⟩
def ti276 : TI := ⟨2, 24, .st [(0, 273), (1, 9)], ((Ty.enc (.pt c293) (Ty.dflt (.pt c293))).cells ++ (Ty.enc .s (Ty.dflt .s)).cells), some c275⟩
def ti277 : TI := ⟨1, 8, .ot, [.s (.pointer none)], none⟩
def ti278 : TI := ⟨1, 24, .sl 277, [.s (.slice none 0 0)], none⟩
def ti279 : TI := ⟨5, 72, .st [(0, 9), (1, 3), (2, 9), (3, 277), (4, 278)], ((Ty.enc .s (Ty.dflt .s)).cells ++ (Ty.enc (.i .i64) (Ty.dflt (.i .i64))).cells ++ (Ty.enc .s (Ty.dflt .s)).cells ++ [.s (.pointer none)] ++ [.s (.slice none 0 0)]), none⟩
def ti280 : TI := ⟨5, 72, .st [(0, 9), (1, 3), (2, 9), (3, 277), (4, 278)], ((Ty.enc .s (Ty.dflt .s)).cells ++ (Ty.enc (.i .i64) (Ty.dflt (.i .i64))).cells ++ (Ty.enc .s (Ty.dflt .s)).cells ++ [.s (.pointer none)] ++ [.s (.slice none 0 0)]), none⟩
def ti281 : TI := ⟨262, 336, .st [(0, 280), (5, 3), (6, 245)], (((Ty.enc .s (Ty.dflt .s)).cells ++ (Ty.enc (.i .i64) (Ty.dflt (.i .i64))).cells ++ (Ty.enc .s (Ty.dflt .s)).cells ++ [.s (.pointer none)] ++ [.s (.slice none 0 0)]) ++ (Ty.enc (.i .i64) (Ty.dflt (.i .i64))).cells ++ (Ty.enc (.ar 256 (.i .u8)) (Ty.dflt (.ar 256 (.i .u8)))).cells), none⟩
def ti282 : TI := ⟨262, 336, .st [(0, 280), (5, 3), (6, 245)], (((Ty.enc .s (Ty.dflt .s)).cells ++ (Ty.enc (.i .i64) (Ty.dflt (.i .i64))).cells ++ (Ty.enc .s (Ty.dflt .s)).cells ++ [.s (.pointer none)] ++ [.s (.slice none 0 0)]) ++ (Ty.enc (.i .i64) (Ty.dflt (.i .i64))).cells ++ (Ty.enc (.ar 256 (.i .u8)) (Ty.dflt (.ar 256 (.i .u8)))).cells), none⟩
def ti283 : TI := ⟨1, 8, .ot, [.s .nilFunc], none⟩
def ti284 : TI := ⟨64, 64, .ar 64 5, (Ty.enc (.ar 64 (.i .u8)) (Ty.dflt (.ar 64 (.i .u8)))).cells, some (.ar 64 (.i .u8))⟩
def ti285 : TI := ⟨1, 8, .ot, (Ty.enc (.pt c201) (Ty.dflt (.pt c201))).cells, some (.pt c201)⟩
def ti286 : TI := ⟨1, 8, .ot, [.s .nilFunc], none⟩
def ti287 : TI := ⟨1, 8, .ot, (Ty.enc (.pt (.i .i32)) (Ty.dflt (.pt (.i .i32)))).cells, some (.pt (.i .i32))⟩
def ti288 : TI := ⟨1, 8, .ot, [.s .nilFunc], none⟩
def ti289 : TI := ⟨1, 8, .ot, [.s .nilFunc], none⟩
def ti290 : TI := ⟨1, 8, .ot, [.s .nilFunc], none⟩
def ti291 : TI := ⟨1, 24, .sl 3, [.s (.slice none 0 0)], some (.sl 1 (.i .i64))⟩
def ti292 : TI := ⟨256, 2048, .ar 256 3, (Ty.enc (.ar 256 (.i .i64)) (Ty.dflt (.ar 256 (.i .i64)))).cells, some (.ar 256 (.i .i64))⟩
def ti293 : TI := ⟨258, 2088, .st [(0, 9), (1, 292), (257, 291)], ((Ty.enc .s (Ty.dflt .s)).cells ++ (Ty.enc (.ar 256 (.i .i64)) (Ty.dflt (.ar 256 (.i .i64)))).cells ++ [.s (.slice none 0 0)]), some c293⟩
def ti294 : TI := ⟨258, 2088, .st [(0, 9), (1, 292), (257, 291)], ((Ty.enc .s (Ty.dflt .s)).cells ++ (Ty.enc (.ar 256 (.i .i64)) (Ty.dflt (.ar 256 (.i .i64)))).cells ++ [.s (.slice none 0 0)]), some c293⟩
def ti295 : TI := ⟨1, 8, .ot, [.s .nilFunc], none⟩
def ti296 : TI := ⟨1, 8, .ot, [.s .nilFunc], none⟩
def ti297 : TI := ⟨4, 40, .st [(0, 17), (1, 17), (2, 17), (3, 9)], ([.s (.pointer none)] ++ [.s (.pointer none)] ++ [.s (.pointer none)] ++ (Ty.enc .s (Ty.dflt .s)).cells), none⟩
def ti298 : TI := ⟨4, 40, .st [(0, 17), (1, 17), (2, 17), (3, 9)], ([.s (.pointer none)] ++ [.s (.pointer none)] ++ [.s (.pointer none)] ++ (Ty.enc .s (Ty.dflt .s)).cells), none⟩
def ti302 : TI := ⟨1, 1, .int .u8, (Ty.enc (.i .u8) (Ty.dflt (.i .u8))).cells, some (.i .u8)⟩
def ti303 : TI := ⟨1, 1, .int .u8, (Ty.enc (.i .u8) (Ty.dflt (.i .u8))).cells, some (.i .u8)⟩
def ti304 : TI := ⟨1, 8, .ot, [.s .nilFunc], none⟩
def ti305 : TI := ⟨1, 4, .int .i32, (Ty.enc (.i .i32) (Ty.dflt (.i .i32))).cells, some (.i .i32)⟩
def ti306 : TI := ⟨1, 4, .int .i32, (Ty.enc (.i .i32) (Ty.dflt (.i .i32))).cells, some (.i .i32)⟩
def ti307 : TI := ⟨11, 48, .st [(0, 12), (1, 12), (2, 198), (3, 302), (4, 5), (5, 5), (6, 303), (7, 304), (8, 155), (9, 305), (10, 306)], ((Ty.enc (.i .u64) (Ty.dflt (.i .u64))).cells ++ (Ty.enc (.i .u64) (Ty.dflt (.i .u64))).cells ++ (Ty.enc (.i .u32) (Ty.dflt (.i .u32))).cells ++ (Ty.enc (.i .u8) (Ty.dflt (.i .u8))).cells ++ (Ty.enc (.i .u8) (Ty.dflt (.i .u8))).cells ++ (Ty.enc (.i .u8) (Ty.dflt (.i .u8))).cells ++ (Ty.enc (.i .u8) (Ty.dflt (.i .u8))).cells ++ [.s .nilFunc] ++ (Ty.enc (.pt (.i .u8)) (Ty.dflt (.pt (.i .u8)))).cells ++ (Ty.enc (.i .i32) (Ty.dflt (.i .i32))).cells ++ (Ty.enc (.i .i32) (Ty.dflt (.i .i32))).cells), none⟩
def ti308 : TI := ⟨11, 48, .st [(0, 12), (1, 12), (2, 198), (3, 302), (4, 5), (5, 5), (6, 303), (7, 304), (8, 155), (9, 305), (10, 306)], ((Ty.enc (.i .u64) (Ty.dflt (.i .u64))).cells ++ (Ty.enc (.i .u64) (Ty.dflt (.i .u64))).cells ++ (Ty.enc (.i .u32) (Ty.dflt (.i .u32))).cells ++ (Ty.enc (.i .u8) (Ty.dflt (.i .u8))).cells ++ (Ty.enc (.i .u8) (Ty.dflt (.i .u8))).cells ++ (Ty.enc (.i .u8) (Ty.dflt (.i .u8))).cells ++ (Ty.enc (.i .u8) (Ty.dflt (.i .u8))).cells ++ [.s .nilFunc] ++ (Ty.enc (.pt (.i .u8)) (Ty.dflt (.pt (.i .u8)))).cells ++ (Ty.enc (.i .i32) (Ty.dflt (.i .i32))).cells ++ (Ty.enc (.i .i32) (Ty.dflt (.i .i32))).cells), none⟩
def ti309 : TI := ⟨1, 8, .ot, [.s .nilFunc], none⟩
def ti310 : TI := ⟨1, 24, .sl 5, [.s (.slice none 0 0)], some (.sl 1 (.i .u8))⟩
def ti311 : TI := ⟨1, 8, .ot, (Ty.enc (.pt (.sl 1 (.i .u8))) (Ty.dflt (.pt (.sl 1 (.i .u8))))).cells, some (.pt (.sl 1 (.i .u8)))⟩
def ti312 : TI := ⟨1, 16, .ot, [.s .nilIface], none⟩
def ti313 : TI := ⟨1, 16, .ot, [.s .nilIface], none⟩
def ti314 : TI := ⟨1, 16, .ot, [.s .nilIface], none⟩
def ti315 : TI := ⟨1, 16, .ot, [.s .nilIface], none⟩
def ti316 : TI := ⟨1, 8, .ot, [.s .nilFunc], none⟩
def ti318 : TI := ⟨1, 8, .ot, [.s .nilFunc], none⟩
def ti320 : TI := ⟨1, 16, .st [(0, 313)], ([.s .nilIface]), none⟩
def ti321 : TI := ⟨1, 16, .st [(0, 313)], ([.s .nilIface]), none⟩
def ti322 : TI := ⟨1, 8, .ot, [.s .nilFunc], none⟩
def tl : List (Nat × TI) := [(1, ti1), (2, ti2), (3, ti3), (4, ti4), (5, ti5), (6, ti6), (7, ti7), (8, ti8), (9, ti9), (10, ti10), (11, ti11), (12, ti12), (13, ti13), (14, ti14), (15, ti15), (16, ti16), (17, ti17), (18, ti18), (19, ti19), (20, ti20), (21, ti21), (22, ti22), (23, ti23), (24, ti24), (25, ti25), (26, ti26), (27, ti27), (28, ti28), (29, ti29), (30, ti30), (31, ti31), (32, ti32), (33, ti33), (34, ti34), (35, ti35), (36, ti36), (37, ti37), (38, ti38), (39, ti39), (41, ti41), (42, ti42), (44, ti44), (46, ti46), (48, ti48), (49, ti49), (50, ti50), (51, ti51), (52, ti52), (53, ti53), (54, ti54), (55, ti55), (56, ti56), (58, ti58), (60, ti60), (61, ti61), (62, ti62), (63, ti63), (65, ti65), (66, ti66), (67, ti67), (68, ti68), (69, ti69), (70, ti70), (71, ti71), (72, ti72), (73, ti73), (75, ti75), (76, ti76), (77, ti77), (78, ti78), (79, ti79), (81, ti81), (82, ti82), (83, ti83), (85, ti85), (87, ti87), (88, ti88), (89, ti89), (90, ti90), (91, ti91), (92, ti92), (93, ti93), (94, ti94), (95, ti95), (97, ti97), (98, ti98), (99, ti99), (100, ti100), (101, ti101), (102, ti102), (103, ti103), (104, ti104), (105, ti105), (106, ti106), (107, ti107), (108, ti108), (109, ti109), (110, ti110), (111, ti111), (112, ti112), (113, ti113), (114, ti114), (115, ti115), (117, ti117), (118, ti118), (119, ti119), (120, ti120), (121, ti121), (122, ti122), (123, ti123), (124, ti124), (125, ti125), (126, ti126), (127, ti127), (128, ti128), (129, ti129), (130, ti130), (132, ti132), (133, ti133), (134, ti134), (135, ti135), (136, ti136), (137, ti137), (138, ti138), (139, ti139), (140, ti140), (141, ti141), (142, ti142), (143, ti143), (144, ti144), (145, ti145), (146, ti146), (148, ti148), (150, ti150), (151, ti151), (152, ti152), (153, ti153), (154, ti154), (155, ti155), (156, ti156), (157, ti157), (158, ti158), (159, ti159), (160, ti160), (161, ti161), (162, ti162), (164, ti164), (165, ti165), (166, ti166), (167, ti167), (168, ti168), (169, ti169), (170, ti170), (171, ti171), (172, ti172), (173, ti173), (174, ti174), (175, ti175), (176, ti176), (177, ti177), (178, ti178), (179, ti179), (180, ti180), (181, ti181), (182, ti182), (183, ti183), (184, ti184), (185, ti185), (186, ti186), (187, ti187), (188, ti188), (189, ti189), (190, ti190), (191, ti191), (193, ti193), (194, ti194), (198, ti198), (199, ti199), (200, ti200), (201, ti201), (202, ti202), (203, ti203), (204, ti204), (205, ti205), (206, ti206), (207, ti207), (208, ti208), (209, ti209), (210, ti210), (211, ti211), (212, ti212), (213, ti213), (214, ti214), (215, ti215), (216, ti216), (217, ti217), (218, ti218), (219, ti219), (220, ti220), (221, ti221), (222, ti222), (223, ti223), (225, ti225), (226, ti226), (228, ti228), (229, ti229), (230, ti230), (231, ti231), (232, ti232), (233, ti233), (234, ti234), (235, ti235), (236, ti236), (237, ti237), (238, ti238), (239, ti239), (241, ti241), (242, ti242), (243, ti243), (244, ti244), (245, ti245), (246, ti246), (247, ti247), (248, ti248), (249, ti249), (250, ti250), (251, ti251), (252, ti252), (253, ti253), (254, ti254), (255, ti255), (256, ti256), (257, ti257), (258, ti258), (259, ti259), (260, ti260), (261, ti261), (262, ti262), (263, ti263), (264, ti264), (265, ti265), (266, ti266), (267, ti267), (269, ti269), (270, ti270), (271, ti271), (272, ti272), (273, ti273), (274, ti274), (275, ti275), (276, ti276), (277, ti277), (278, ti278), (279, ti279), (280, ti280), (281, ti281), (282, ti282), (283, ti283), (284, ti284), (285, ti285), (286, ti286), (287, ti287), (288, ti288), (289, ti289), (290, ti290), (291, ti291), (292, ti292), (293, ti293), (294, ti294), (295, ti295), (296, ti296), (297, ti297), (298, ti298), (302, ti302), (303, ti303), (304, ti304), (305, ti305), (306, ti306), (307, ti307), (308, ti308), (309, ti309), (310, ti310), (311, ti311), (312, ti312), (313, ti313), (314, ti314), (315, ti315), (316, ti316), (318, ti318), (320, ti320), (321, ti321), (322, ti322)]
abbrev T : Tab := tab tl
theorem T_ok : TOk Tryz.prog T := TOk.of (l := tl)
  ⟨⟨by kernel_rfl, by kernel_rfl, by kernel_rfl, by kernel_rfl, by kernel_rfl⟩,
   ⟨by kernel_rfl, by kernel_rfl, by kernel_rfl, by kernel_rfl, by kernel_rfl⟩,
   ⟨by kernel_rfl, by kernel_rfl, by kernel_rfl, by kernel_rfl, by kernel_rfl⟩,
   ⟨by kernel_rfl, by kernel_rfl, by kernel_rfl, by kernel_rfl, by kernel_rfl⟩,
   ⟨by kernel_rfl, by kernel_rfl, by kernel_rfl, by kernel_rfl, by kernel_rfl⟩,
   ⟨by kernel_rfl, by kernel_rfl, by kernel_rfl, by kernel_rfl, by kernel_rfl⟩,
   ⟨by kernel_rfl, by kernel_rfl, by kernel_rfl, by kernel_rfl, by kernel_rfl⟩,
   ⟨by kernel_rfl, by kernel_rfl, by kernel_rfl, by kernel_rfl, by kernel_rfl⟩,
   ⟨by kernel_rfl, by kernel_rfl, by kernel_rfl, by kernel_rfl, by kernel_rfl⟩,
   ⟨by kernel_rfl, by kernel_rfl, by kernel_rfl, by kernel_rfl, by kernel_rfl⟩,
   ⟨by kernel_rfl, by kernel_rfl, by kernel_rfl, by kernel_rfl, by kernel_rfl⟩,
   ⟨by kernel_rfl, by kernel_rfl, by kernel_rfl, by kernel_rfl, by kernel_rfl⟩,
   ⟨by kernel_rfl, by kernel_rfl, by kernel_rfl, by kernel_rfl, by kernel_rfl⟩,
   ⟨by kernel_rfl, by kernel_rfl, by kernel_rfl, by kernel_rfl, by kernel_rfl⟩,
   ⟨by kernel_rfl, by kernel_rfl, by kernel_rfl, by kernel_rfl, by kernel_rfl⟩,
   ⟨by kernel_rfl, by kernel_rfl, by kernel_rfl, by kernel_rfl, by kernel_rfl⟩,
   ⟨by kernel_rfl, by kernel_rfl, by kernel_rfl, by kernel_rfl, by kernel_rfl⟩,
   ⟨by kernel_rfl, by kernel_rfl, by kernel_rfl, by kernel_rfl, by kernel_rfl⟩,
   ⟨by kernel_rfl, by kernel_rfl, by kernel_rfl, by kernel_rfl, by kernel_rfl⟩,
   ⟨by kernel_rfl, by kernel_rfl, by kernel_rfl, by kernel_rfl, by kernel_rfl⟩,
   ⟨by kernel_rfl, by kernel_rfl, by kernel_rfl, by kernel_rfl, by kernel_rfl⟩,
   ⟨by kernel_rfl, by kernel_rfl, by kernel_rfl, by kernel_rfl, by kernel_rfl⟩,
   ⟨by kernel_rfl, by kernel_rfl, by kernel_rfl, by kernel_rfl, by kernel_rfl⟩,
   ⟨by kernel_rfl, by kernel_rfl, by kernel_rfl, by kernel_rfl, by kernel_rfl⟩,
   ⟨by kernel_rfl, by kernel_rfl, by kernel_rfl, by kernel_rfl, by kernel_rfl⟩,
   ⟨by kernel_rfl, by kernel_rfl, by kernel_rfl, by kernel_rfl, by kernel_rfl⟩,
   ⟨by kernel_rfl, by kernel_rfl, by kernel_rfl, by kernel_rfl, by kernel_rfl⟩,
   ⟨by kernel_rfl, by kernel_rfl, by kernel_rfl, by kernel_rfl, by kernel_rfl⟩,
   ⟨by kernel_rfl, by kernel_rfl, by kernel_rfl, by kernel_rfl, by kernel_rfl⟩,
   ⟨by kernel_rfl, by kernel_rfl, by kernel_rfl, by kernel_rfl, by kernel_rfl⟩,
   ⟨by kernel_rfl, by kernel_rfl, by kernel_rfl, by kernel_rfl, by kernel_rfl⟩,
   ⟨by kernel_rfl, by kernel_rfl, by kernel_rfl, by kernel_rfl, by kernel_rfl⟩,
   ⟨by kernel_rfl, by kernel_rfl, by kernel_rfl, by kernel_rfl, by kernel_rfl⟩,
   ⟨by kernel_rfl, by kernel_rfl, by kernel_rfl, by kernel_rfl, by kernel_rfl⟩,
   ⟨by kernel_rfl, by kernel_rfl, by kernel_rfl, by kernel_rfl, by kernel_rfl⟩,
   ⟨by kernel_rfl, by kernel_rfl, by kernel_rfl, by kernel_rfl, by kernel_rfl⟩,
   ⟨by kernel_rfl, by kernel_rfl, by kernel_rfl, by kernel_rfl, by kernel_rfl⟩,
   ⟨by kernel_rfl, by kernel_rfl, by kernel_rfl, by kernel_rfl, by kernel_rfl⟩,
   ⟨by kernel_rfl, by kernel_rfl, by kernel_rfl, by kernel_rfl, by kernel_rfl⟩,
   ⟨by kernel_rfl, by kernel_rfl, by kernel_rfl, by kernel_rfl, by kernel_rfl⟩,
   ⟨by kernel_rfl, by kernel_rfl, by kernel_rfl, by kernel_rfl, by kernel_rfl⟩,
   ⟨by kernel_rfl, by kernel_rfl, by kernel_rfl, by kernel_rfl, by kernel_rfl⟩,
   ⟨by kernel_rfl, by kernel_rfl, by kernel_rfl, by kernel_rfl, by kernel_rfl⟩,
   ⟨by kernel_rfl, by kernel_rfl, by kernel_rfl, by kernel_rfl, by kernel_rfl⟩,
   ⟨by kernel_rfl, by kernel_rfl, by kernel_rfl, by kernel_rfl, by kernel_rfl⟩,
   ⟨by kernel_rfl, by kernel_rfl, by kernel_rfl, by kernel_rfl, by kernel_rfl⟩,
   ⟨by kernel_rfl, by kernel_rfl, by kernel_rfl, by kernel_rfl, by kernel_rfl⟩,
   ⟨by kernel_rfl, by kernel_rfl, by kernel_rfl, by kernel_rfl, by kernel_rfl⟩,
   ⟨by kernel_rfl, by kernel_rfl, by kernel_rfl, by kernel_rfl, by kernel_rfl⟩,
   ⟨by kernel_rfl, by kernel_rfl, by kernel_rfl, by kernel_rfl, by kernel_rfl⟩,
   ⟨by kernel_rfl, by kernel_rfl, by kernel_rfl, by kernel_rfl, by kernel_rfl⟩,
   ⟨by kernel_rfl, by kernel_rfl, by kernel_rfl, by kernel_rfl, by kernel_rfl⟩,
   ⟨by kernel_rfl, by kernel_rfl, by kernel_rfl, by kernel_rfl, by kernel_rfl⟩,
   ⟨by kernel_rfl, by kernel_rfl, by kernel_rfl, by kernel_rfl, by kernel_rfl⟩,
   ⟨by kernel_rfl, by kernel_rfl, by kernel_rfl, by kernel_rfl, by kernel_rfl⟩,
   ⟨by kernel_rfl, by kernel_rfl, by kernel_rfl, by kernel_rfl, by kernel_rfl⟩,
   ⟨by kernel_rfl, by kernel_rfl, by kernel_rfl, by kernel_rfl, by kernel_rfl⟩,
   ⟨by kernel_rfl, by kernel_rfl, by kernel_rfl, by kernel_rfl, by kernel_rfl⟩,
   ⟨by kernel_rfl, by kernel_rfl, by kernel_rfl, by kernel_rfl, by kernel_rfl⟩,
   ⟨by kernel_rfl, by kernel_rfl, by kernel_rfl, by kernel_rfl, by kernel_rfl⟩,
   ⟨by kernel_rfl, by kernel_rfl, by kernel_rfl, by kernel_rfl, by kernel_rfl⟩,
   ⟨by kernel_rfl, by kernel_rfl, by kernel_rfl, by kernel_rfl, by kernel_rfl⟩,
   ⟨by kernel_rfl, by kernel_rfl, by kernel_rfl, by kernel_rfl, by kernel_rfl⟩,
   ⟨by kernel_rfl, by kernel_rfl, by kernel_rfl, by kernel_rfl, by kernel_rfl⟩,
   ⟨by kernel_rfl, by kernel_rfl, by kernel_rfl, by kernel_rfl, by kernel_rfl⟩,
   ⟨by kernel_rfl, by kernel_rfl, by kernel_rfl, by kernel_rfl, by kernel_rfl⟩,
   ⟨by kernel_rfl, by kernel_rfl, by kernel_rfl, by kernel_rfl, by kernel_rfl⟩,
   ⟨by kernel_rfl, by kernel_rfl, by kernel_rfl, by kernel_rfl, by kernel_rfl⟩,
   ⟨by kernel_rfl, by kernel_rfl, by kernel_rfl, by kernel_rfl, by kernel_rfl⟩,
   ⟨by kernel_rfl, by kernel_rfl, by kernel_rfl, by kernel_rfl, by kernel_rfl⟩,
   ⟨by kernel_rfl, by kernel_rfl, by kernel_rfl, by kernel_rfl, by kernel_rfl⟩,
   ⟨by kernel_rfl, by kernel_rfl, by kernel_rfl, by kernel_rfl, by kernel_rfl⟩,
   ⟨by kernel_rfl, by kernel_rfl, by kernel_rfl, by kernel_rfl, by kernel_rfl⟩,
   ⟨by kernel_rfl, by kernel_rfl, by kernel_rfl, by kernel_rfl, by kernel_rfl⟩,
   ⟨by kernel_rfl, by kernel_rfl, by kernel_rfl, by kernel_rfl, by kernel_rfl⟩,
   ⟨by kernel_rfl, by kernel_rfl, by kernel_rfl, by kernel_rfl, by kernel_rfl⟩,
   ⟨by kernel_rfl, by kernel_rfl, by kernel_rfl, by kernel_rfl, by kernel_rfl⟩,
   ⟨by kernel_rfl, by kernel_rfl, by kernel_rfl, by kernel_rfl, by kernel_rfl⟩,
   ⟨by kernel_rfl, by kernel_rfl, by kernel_rfl, by kernel_rfl, by kernel_rfl⟩,
   ⟨by kernel_rfl, by kernel_rfl, by kernel_rfl, by kernel_rfl, by kernel_rfl⟩,
   ⟨by kernel_rfl, by kernel_rfl, by kernel_rfl, by kernel_rfl, by kernel_rfl⟩,
   ⟨by kernel_rfl, by kernel_rfl, by kernel_rfl, by kernel_rfl, by kernel_rfl⟩,
   ⟨by kernel_rfl, by kernel_rfl, by kernel_rfl, by kernel_rfl, by kernel_rfl⟩,
   ⟨by kernel_rfl, by kernel_rfl, by kernel_rfl, by kernel_rfl, by kernel_rfl⟩,
   ⟨by kernel_rfl, by kernel_rfl, by kernel_rfl, by kernel_rfl, by kernel_rfl⟩,
   ⟨by kernel_rfl, by kernel_rfl, by kernel_rfl, by kernel_rfl, by kernel_rfl⟩,
   ⟨by kernel_rfl, by kernel_rfl, by kernel_rfl, by kernel_rfl, by kernel_rfl⟩,
   ⟨by kernel_rfl, by kernel_rfl, by kernel_rfl, by kernel_rfl, by kernel_rfl⟩,
   ⟨by kernel_rfl, by kernel_rfl, by kernel_rfl, by kernel_rfl, by kernel_rfl⟩,
   ⟨by kernel_rfl, by kernel_rfl, by kernel_rfl, by kernel_rfl, by kernel_rfl⟩,
   ⟨by kernel_rfl, by kernel_rfl, by kernel_rfl, by kernel_rfl, by kernel_rfl⟩,
   ⟨by kernel_rfl, by kernel_rfl, by kernel_rfl, by kernel_rfl, by kernel_rfl⟩,
   ⟨by kernel_rfl, by kernel_rfl, by kernel_rfl, by kernel_rfl, by kernel_rfl⟩,
   ⟨by kernel_rfl, by kernel_rfl, by kernel_rfl, by kernel_rfl, by kernel_rfl⟩,
   ⟨by kernel_rfl, by kernel_rfl, by kernel_rfl, by kernel_rfl, by kernel_rfl⟩,
   ⟨by kernel_rfl, by kernel_rfl, by kernel_rfl, by kernel_rfl, by kernel_rfl⟩,
   ⟨by kernel_rfl, by kernel_rfl, by kernel_rfl, by kernel_rfl, by kernel_rfl⟩,
   ⟨by kernel_rfl, by kernel_rfl, by kernel_rfl, by kernel_rfl, by kernel_rfl⟩,
   ⟨by kernel_rfl, by kernel_rfl, by kernel_rfl, by kernel_rfl, by kernel_rfl⟩,
   ⟨by kernel_rfl, by kernel_rfl, by kernel_rfl, by kernel_rfl, by kernel_rfl⟩,
   ⟨by kernel_rfl, by kernel_rfl, by kernel_rfl, by kernel_rfl, by kernel_rfl⟩,
   ⟨by kernel_rfl, by kernel_rfl, by kernel_rfl, by kernel_rfl, by kernel_rfl⟩,
   ⟨by kernel_rfl, by kernel_rfl, by kernel_rfl, by kernel_rfl, by kernel_rfl⟩,
   ⟨by kernel_rfl, by kernel_rfl, by kernel_rfl, by kernel_rfl, by kernel_rfl⟩,
   ⟨by kernel_rfl, by kernel_rfl, by kernel_rfl, by kernel_rfl, by kernel_rfl⟩,
   ⟨by kernel_rfl, by kernel_rfl, by kernel_rfl, by kernel_rfl, by kernel_rfl⟩,
   ⟨by kernel_rfl, by kernel_rfl, by kernel_rfl, by kernel_rfl, by kernel_rfl⟩,
   ⟨by kernel_rfl, by kernel_rfl, by kernel_rfl, by kernel_rfl, by kernel_rfl⟩,
   ⟨by kernel_rfl, by kernel_rfl, by kernel_rfl, by kernel_rfl, by kernel_rfl⟩,
   ⟨by kernel_rfl, by kernel_rfl, by kernel_rfl, by kernel_rfl, by kernel_rfl⟩,
   ⟨by kernel_rfl, by kernel_rfl, by kernel_rfl, by kernel_rfl, by kernel_rfl⟩,
   ⟨by kernel_rfl, by kernel_rfl, by kernel_rfl, by kernel_rfl, by kernel_rfl⟩,
   ⟨by kernel_rfl, by kernel_rfl, by kernel_rfl, by kernel_rfl, by kernel_rfl⟩,
   ⟨by kernel_rfl, by kernel_rfl, by kernel_rfl, by kernel_rfl, by kernel_rfl⟩,
   ⟨by kernel_rfl, by kernel_rfl, by kernel_rfl, by kernel_rfl, by kernel_rfl⟩,
   ⟨by kernel_rfl, by kernel_rfl, by kernel_rfl, by kernel_rfl, by kernel_rfl⟩,
   ⟨by kernel_rfl, by kernel_rfl, by kernel_rfl, by kernel_rfl, by kernel_rfl⟩,
   ⟨by kernel_rfl, by kernel_rfl, by kernel_rfl, by kernel_rfl, by kernel_rfl⟩,
   ⟨by kernel_rfl, by kernel_rfl, by kernel_rfl, by kernel_rfl, by kernel_rfl⟩,
   ⟨by kernel_rfl, by kernel_rfl, by kernel_rfl, by kernel_rfl, by kernel_rfl⟩,
   ⟨by kernel_rfl, by kernel_rfl, by kernel_rfl, by kernel_rfl, by kernel_rfl⟩,
   ⟨by kernel_rfl, by kernel_rfl, by kernel_rfl, by kernel_rfl, by kernel_rfl⟩,
   ⟨by kernel_rfl, by kernel_rfl, by kernel_rfl, by kernel_rfl, by kernel_rfl⟩,
   ⟨by kernel_rfl, by kernel_rfl, by kernel_rfl, by kernel_rfl, by kernel_rfl⟩,
   ⟨by kernel_rfl, by kernel_rfl, by kernel_rfl, by kernel_rfl, by kernel_rfl⟩,
   ⟨by kernel_rfl, by kernel_rfl, by kernel_rfl, by kernel_rfl, by kernel_rfl⟩,
   ⟨by kernel_rfl, by kernel_rfl, by kernel_rfl, by kernel_rfl, by kernel_rfl⟩,
   ⟨by kernel_rfl, by kernel_rfl, by kernel_rfl, by kernel_rfl, by kernel_rfl⟩,
   ⟨by kernel_rfl, by kernel_rfl, by kernel_rfl, by kernel_rfl, by kernel_rfl⟩,
   ⟨by kernel_rfl, by kernel_rfl, by kernel_rfl, by kernel_rfl, by kernel_rfl⟩,
   ⟨by kernel_rfl, by kernel_rfl, by kernel_rfl, by kernel_rfl, by kernel_rfl⟩,
   ⟨by kernel_rfl, by kernel_rfl, by kernel_rfl, by kernel_rfl, by kernel_rfl⟩,
   ⟨by kernel_rfl, by kernel_rfl, by kernel_rfl, by kernel_rfl, by kernel_rfl⟩,
   ⟨by kernel_rfl, by kernel_rfl, by kernel_rfl, by kernel_rfl, by kernel_rfl⟩,
   ⟨by kernel_rfl, by kernel_rfl, by kernel_rfl, by kernel_rfl, by kernel_rfl⟩,
   ⟨by kernel_rfl, by kernel_rfl, by kernel_rfl, by kernel_rfl, by kernel_rfl⟩,
   ⟨by kernel_rfl, by kernel_rfl, by kernel_rfl, by kernel_rfl, by kernel_rfl⟩,
   ⟨by kernel_rfl, by kernel_rfl, by kernel_rfl, by kernel_rfl, by kernel_rfl⟩,
   ⟨by kernel_rfl, by kernel_rfl, by kernel_rfl, by kernel_rfl, by kernel_rfl⟩,
   ⟨by kernel_rfl, by kernel_rfl, by kernel_rfl, by kernel_rfl, by kernel_rfl⟩,
   ⟨by kernel_rfl, by kernel_rfl, by kernel_rfl, by kernel_rfl, by kernel_rfl⟩,
   ⟨by kernel_rfl, by kernel_rfl, by kernel_rfl, by kernel_rfl, by kernel_rfl⟩,
   ⟨by kernel_rfl, by kernel_rfl, by kernel_rfl, by kernel_rfl, by kernel_rfl⟩,
   ⟨by kernel_rfl, by kernel_rfl, by kernel_rfl, by kernel_rfl, by kernel_rfl⟩,
   ⟨by kernel_rfl, by kernel_rfl, by kernel_rfl, by kernel_rfl, by kernel_rfl⟩,
   ⟨by kernel_rfl, by kernel_rfl, by kernel_rfl, by kernel_rfl, by kernel_rfl⟩,
   ⟨by kernel_rfl, by kernel_rfl, by kernel_rfl, by kernel_rfl, by kernel_rfl⟩,
   ⟨by kernel_rfl, by kernel_rfl, by kernel_rfl, by kernel_rfl, by kernel_rfl⟩,
   ⟨by kernel_rfl, by kernel_rfl, by kernel_rfl, by kernel_rfl, by kernel_rfl⟩,
   ⟨by kernel_rfl, by kernel_rfl, by kernel_rfl, by kernel_rfl, by kernel_rfl⟩,
   ⟨by kernel_rfl, by kernel_rfl, by kernel_rfl, by kernel_rfl, by kernel_rfl⟩,
   ⟨by kernel_rfl, by kernel_rfl, by kernel_rfl, by kernel_rfl, by kernel_rfl⟩,
   ⟨by kernel_rfl, by kernel_rfl, by kernel_rfl, by kernel_rfl, by kernel_rfl⟩,
   ⟨by kernel_rfl, by kernel_rfl, by kernel_rfl, by kernel_rfl, by kernel_rfl⟩,
   ⟨by kernel_rfl, by kernel_rfl, by kernel_rfl, by kernel_rfl, by kernel_rfl⟩,
   ⟨by kernel_rfl, by kernel_rfl, by kernel_rfl, by kernel_rfl, by kernel_rfl⟩,
   ⟨by kernel_rfl, by kernel_rfl, by kernel_rfl, by kernel_rfl, by kernel_rfl⟩,
   ⟨by kernel_rfl, by kernel_rfl, by kernel_rfl, by kernel_rfl, by kernel_rfl⟩,
   ⟨by kernel_rfl, by kernel_rfl, by kernel_rfl, by kernel_rfl, by kernel_rfl⟩,
   ⟨by kernel_rfl, by kernel_rfl, by kernel_rfl, by kernel_rfl, by kernel_rfl⟩,
   ⟨by kernel_rfl, by kernel_rfl, by kernel_rfl, by kernel_rfl, by kernel_rfl⟩,
   ⟨by kernel_rfl, by kernel_rfl, by kernel_rfl, by kernel_rfl, by kernel_rfl⟩,
   ⟨by kernel_rfl, by kernel_rfl, by kernel_rfl, by kernel_rfl, by kernel_rfl⟩,
   ⟨by kernel_rfl, by kernel_rfl, by kernel_rfl, by kernel_rfl, by kernel_rfl⟩,
   ⟨by kernel_rfl, by kernel_rfl, by kernel_rfl, by kernel_rfl, by kernel_rfl⟩,
   ⟨by kernel_rfl, by kernel_rfl, by kernel_rfl, by kernel_rfl, by kernel_rfl⟩,
   ⟨by kernel_rfl, by kernel_rfl, by kernel_rfl, by kernel_rfl, by kernel_rfl⟩,
   ⟨by kernel_rfl, by kernel_rfl, by kernel_rfl, by kernel_rfl, by kernel_rfl⟩,
   ⟨by kernel_rfl, by kernel_rfl, by kernel_rfl, by kernel_rfl, by kernel_rfl⟩,
   ⟨by kernel_rfl, by kernel_rfl, by kernel_rfl, by kernel_rfl, by kernel_rfl⟩,
   ⟨by kernel_rfl, by kernel_rfl, by kernel_rfl, by kernel_rfl, by kernel_rfl⟩,
   ⟨by kernel_rfl, by kernel_rfl, by kernel_rfl, by kernel_rfl, by kernel_rfl⟩,
   ⟨by kernel_rfl, by kernel_rfl, by kernel_rfl, by kernel_rfl, by kernel_rfl⟩,
   ⟨by kernel_rfl, by kernel_rfl, by kernel_rfl, by kernel_rfl, by kernel_rfl⟩,
   ⟨by kernel_rfl, by kernel_rfl, by kernel_rfl, by kernel_rfl, by kernel_rfl⟩,
   ⟨by kernel_rfl, by kernel_rfl, by kernel_rfl, by kernel_rfl, by kernel_rfl⟩,
   ⟨by kernel_rfl, by kernel_rfl, by kernel_rfl, by kernel_rfl, by kernel_rfl⟩,
   ⟨by kernel_rfl, by kernel_rfl, by kernel_rfl, by kernel_rfl, by kernel_rfl⟩,
   ⟨by kernel_rfl, by kernel_rfl, by kernel_rfl, by kernel_rfl, by kernel_rfl⟩,
   ⟨by kernel_rfl, by kernel_rfl, by kernel_rfl, by kernel_rfl, by kernel_rfl⟩,
   ⟨by kernel_rfl, by kernel_rfl, by kernel_rfl, by kernel_rfl, by kernel_rfl⟩,
   ⟨by kernel_rfl, by kernel_rfl, by kernel_rfl, by kernel_rfl, by kernel_rfl⟩,
   ⟨by kernel_rfl, by kernel_rfl, by kernel_rfl, by kernel_rfl, by kernel_rfl⟩,
   ⟨by kernel_rfl, by kernel_rfl, by kernel_rfl, by kernel_rfl, by kernel_rfl⟩,
   ⟨by kernel_rfl, by kernel_rfl, by kernel_rfl, by kernel_rfl, by kernel_rfl⟩,
   ⟨by kernel_rfl, by kernel_rfl, by kernel_rfl, by kernel_rfl, by kernel_rfl⟩,
   ⟨by kernel_rfl, by kernel_rfl, by kernel_rfl, by kernel_rfl, by kernel_rfl⟩,
   ⟨by kernel_rfl, by kernel_rfl, by kernel_rfl, by kernel_rfl, by kernel_rfl⟩,
   ⟨by kernel_rfl, by kernel_rfl, by kernel_rfl, by kernel_rfl, by kernel_rfl⟩,
   ⟨by kernel_rfl, by kernel_rfl, by kernel_rfl, by kernel_rfl, by kernel_rfl⟩,
   ⟨by kernel_rfl, by kernel_rfl, by kernel_rfl, by kernel_rfl, by kernel_rfl⟩,
   ⟨by kernel_rfl, by kernel_rfl, by kernel_rfl, by kernel_rfl, by kernel_rfl⟩,
   ⟨by kernel_rfl, by kernel_rfl, by kernel_rfl, by kernel_rfl, by kernel_rfl⟩,
   ⟨by kernel_rfl, by kernel_rfl, by kernel_rfl, by kernel_rfl, by kernel_rfl⟩,
   ⟨by kernel_rfl, by kernel_rfl, by kernel_rfl, by kernel_rfl, by kernel_rfl⟩,
   ⟨by kernel_rfl, by kernel_rfl, by kernel_rfl, by kernel_rfl, by kernel_rfl⟩,
   ⟨by kernel_rfl, by kernel_rfl, by kernel_rfl, by kernel_rfl, by kernel_rfl⟩,
   ⟨by kernel_rfl, by kernel_rfl, by kernel_rfl, by kernel_rfl, by kernel_rfl⟩,
   ⟨by kernel_rfl, by kernel_rfl, by kernel_rfl, by kernel_rfl, by kernel_rfl⟩,
   ⟨by kernel_rfl, by kernel_rfl, by kernel_rfl, by kernel_rfl, by kernel_rfl⟩,
   ⟨by kernel_rfl, by kernel_rfl, by kernel_rfl, by kernel_rfl, by kernel_rfl⟩,
   ⟨by kernel_rfl, by kernel_rfl, by kernel_rfl, by kernel_rfl, by kernel_rfl⟩,
   ⟨by kernel_rfl, by kernel_rfl, by kernel_rfl, by kernel_rfl, by kernel_rfl⟩,
   ⟨by kernel_rfl, by kernel_rfl, by kernel_rfl, by kernel_rfl, by kernel_rfl⟩,
   ⟨by kernel_rfl, by kernel_rfl, by kernel_rfl, by kernel_rfl, by kernel_rfl⟩,
   ⟨by kernel_rfl, by kernel_rfl, by kernel_rfl, by kernel_rfl, by kernel_rfl⟩,
   ⟨by kernel_rfl, by kernel_rfl, by kernel_rfl, by kernel_rfl, by kernel_rfl⟩,
   ⟨by kernel_rfl, by kernel_rfl, by kernel_rfl, by kernel_rfl, by kernel_rfl⟩,
   ⟨by kernel_rfl, by kernel_rfl, by kernel_rfl, by kernel_rfl, by kernel_rfl⟩,
   ⟨by kernel_rfl, by kernel_rfl, by kernel_rfl, by kernel_rfl, by kernel_rfl⟩,
   ⟨by kernel_rfl, by kernel_rfl, by kernel_rfl, by kernel_rfl, by kernel_rfl⟩,
   ⟨by kernel_rfl, by kernel_rfl, by kernel_rfl, by kernel_rfl, by kernel_rfl⟩,
   ⟨by kernel_rfl, by kernel_rfl, by kernel_rfl, by kernel_rfl, by kernel_rfl⟩,
   ⟨by kernel_rfl, by kernel_rfl, by kernel_rfl, by kernel_rfl, by kernel_rfl⟩,
   ⟨by kernel_rfl, by kernel_rfl, by kernel_rfl, by kernel_rfl, by kernel_rfl⟩,
   ⟨by kernel_rfl, by kernel_rfl, by kernel_rfl, by kernel_rfl, by kernel_rfl⟩,
   ⟨by kernel_rfl, by kernel_rfl, by kernel_rfl, by kernel_rfl, by kernel_rfl⟩,
   ⟨by kernel_rfl, by kernel_rfl, by kernel_rfl, by kernel_rfl, by kernel_rfl⟩,
   ⟨by kernel_rfl, by kernel_rfl, by kernel_rfl, by kernel_rfl, by kernel_rfl⟩,
   ⟨by kernel_rfl, by kernel_rfl, by kernel_rfl, by kernel_rfl, by kernel_rfl⟩,
   ⟨by kernel_rfl, by kernel_rfl, by kernel_rfl, by kernel_rfl, by kernel_rfl⟩,
   ⟨by kernel_rfl, by kernel_rfl, by kernel_rfl, by kernel_rfl, by kernel_rfl⟩,
   ⟨by kernel_rfl, by kernel_rfl, by kernel_rfl, by kernel_rfl, by kernel_rfl⟩,
   ⟨by kernel_rfl, by kernel_rfl, by kernel_rfl, by kernel_rfl, by kernel_rfl⟩,
   ⟨by kernel_rfl, by kernel_rfl, by kernel_rfl, by kernel_rfl, by kernel_rfl⟩,
   ⟨by kernel_rfl, by kernel_rfl, by kernel_rfl, by kernel_rfl, by kernel_rfl⟩,
   ⟨by kernel_rfl, by kernel_rfl, by kernel_rfl, by kernel_rfl, by kernel_rfl⟩,
   ⟨by kernel_rfl, by kernel_rfl, by kernel_rfl, by kernel_rfl, by kernel_rfl⟩,
   ⟨by kernel_rfl, by kernel_rfl, by kernel_rfl, by kernel_rfl, by kernel_rfl⟩,
   ⟨by kernel_rfl, by kernel_rfl, by kernel_rfl, by kernel_rfl, by kernel_rfl⟩,
   ⟨by kernel_rfl, by kernel_rfl, by kernel_rfl, by kernel_rfl, by kernel_rfl⟩,
   ⟨by kernel_rfl, by kernel_rfl, by kernel_rfl, by kernel_rfl, by kernel_rfl⟩,
   ⟨by kernel_rfl, by kernel_rfl, by kernel_rfl, by kernel_rfl, by kernel_rfl⟩,
   ⟨by kernel_rfl, by kernel_rfl, by kernel_rfl, by kernel_rfl, by kernel_rfl⟩,
   ⟨by kernel_rfl, by kernel_rfl, by kernel_rfl, by kernel_rfl, by kernel_rfl⟩,
   ⟨by kernel_rfl, by kernel_rfl, by kernel_rfl, by kernel_rfl, by kernel_rfl⟩,
   ⟨by kernel_rfl, by kernel_rfl, by kernel_rfl, by kernel_rfl, by kernel_rfl⟩,
   ⟨by kernel_rfl, by kernel_rfl, by kernel_rfl, by kernel_rfl, by kernel_rfl⟩,
   ⟨by kernel_rfl, by kernel_rfl, by kernel_rfl, by kernel_rfl, by kernel_rfl⟩,
   ⟨by kernel_rfl, by kernel_rfl, by kernel_rfl, by kernel_rfl, by kernel_rfl⟩,
   ⟨by kernel_rfl, by kernel_rfl, by kernel_rfl, by kernel_rfl, by kernel_rfl⟩,
   ⟨by kernel_rfl, by kernel_rfl, by kernel_rfl, by kernel_rfl, by kernel_rfl⟩,
   ⟨by kernel_rfl, by kernel_rfl, by kernel_rfl, by kernel_rfl, by kernel_rfl⟩,
   ⟨by kernel_rfl, by kernel_rfl, by kernel_rfl, by kernel_rfl, by kernel_rfl⟩,
   ⟨by kernel_rfl, by kernel_rfl, by kernel_rfl, by kernel_rfl, by kernel_rfl⟩,
   ⟨by kernel_rfl, by kernel_rfl, by kernel_rfl, by kernel_rfl, by kernel_rfl⟩,
   ⟨by kernel_rfl, by kernel_rfl, by kernel_rfl, by kernel_rfl, by kernel_rfl⟩,
   ⟨by kernel_rfl, by kernel_rfl, by kernel_rfl, by kernel_rfl, by kernel_rfl⟩,
   ⟨by kernel_rfl, by kernel_rfl, by kernel_rfl, by kernel_rfl, by kernel_rfl⟩,
   ⟨by kernel_rfl, by kernel_rfl, by kernel_rfl, by kernel_rfl, by kernel_rfl⟩,
   ⟨by kernel_rfl, by kernel_rfl, by kernel_rfl, by kernel_rfl, by kernel_rfl⟩,
   ⟨by kernel_rfl, by kernel_rfl, by kernel_rfl, by kernel_rfl, by kernel_rfl⟩,
   ⟨by kernel_rfl, by kernel_rfl, by kernel_rfl, by kernel_rfl, by kernel_rfl⟩,
   ⟨by kernel_rfl, by kernel_rfl, by kernel_rfl, by kernel_rfl, by kernel_rfl⟩,
   ⟨by kernel_rfl, by kernel_rfl, by kernel_rfl, by kernel_rfl, by kernel_rfl⟩,
   ⟨by kernel_rfl, by kernel_rfl, by kernel_rfl, by kernel_rfl, by kernel_rfl⟩,
   ⟨by kernel_rfl, by kernel_rfl, by kernel_rfl, by kernel_rfl, by kernel_rfl⟩,
   ⟨by kernel_rfl, by kernel_rfl, by kernel_rfl, by kernel_rfl, by kernel_rfl⟩,
   ⟨by kernel_rfl, by kernel_rfl, by kernel_rfl, by kernel_rfl, by kernel_rfl⟩,
   ⟨by kernel_rfl, by kernel_rfl, by kernel_rfl, by kernel_rfl, by kernel_rfl⟩,
   ⟨by kernel_rfl, by kernel_rfl, by kernel_rfl, by kernel_rfl, by kernel_rfl⟩,
   ⟨by kernel_rfl, by kernel_rfl, by kernel_rfl, by kernel_rfl, by kernel_rfl⟩,
   ⟨by kernel_rfl, by kernel_rfl, by kernel_rfl, by kernel_rfl, by kernel_rfl⟩,
   ⟨by kernel_rfl, by kernel_rfl, by kernel_rfl, by kernel_rfl, by kernel_rfl⟩,
   ⟨by kernel_rfl, by kernel_rfl, by kernel_rfl, by kernel_rfl, by kernel_rfl⟩,
   ⟨by kernel_rfl, by kernel_rfl, by kernel_rfl, by kernel_rfl, by kernel_rfl⟩,
   ⟨by kernel_rfl, by kernel_rfl, by kernel_rfl, by kernel_rfl, by kernel_rfl⟩,
   ⟨by kernel_rfl, by kernel_rfl, by kernel_rfl, by kernel_rfl, by kernel_rfl⟩,
   ⟨by kernel_rfl, by kernel_rfl, by kernel_rfl, by kernel_rfl, by kernel_rfl⟩,
   ⟨by kernel_rfl, by kernel_rfl, by kernel_rfl, by kernel_rfl, by kernel_rfl⟩,
   ⟨by kernel_rfl, by kernel_rfl, by kernel_rfl, by kernel_rfl, by kernel_rfl⟩,
   ⟨by kernel_rfl, by kernel_rfl, by kernel_rfl, by kernel_rfl, by kernel_rfl⟩,
   ⟨by kernel_rfl, by kernel_rfl, by kernel_rfl, by kernel_rfl, by kernel_rfl⟩,
   ⟨by kernel_rfl, by kernel_rfl, by kernel_rfl, by kernel_rfl, by kernel_rfl⟩,
   ⟨by kernel_rfl, by kernel_rfl, by kernel_rfl, by kernel_rfl, by kernel_rfl⟩,
   ⟨by kernel_rfl, by kernel_rfl, by kernel_rfl, by kernel_rfl, by kernel_rfl⟩,
   ⟨by kernel_rfl, by kernel_rfl, by kernel_rfl, by kernel_rfl, by kernel_rfl⟩,
   ⟨by kernel_rfl, by kernel_rfl, by kernel_rfl, by kernel_rfl, by kernel_rfl⟩,
   ⟨by kernel_rfl, by kernel_rfl, by kernel_rfl, by kernel_rfl, by kernel_rfl⟩,
   ⟨by kernel_rfl, by kernel_rfl, by kernel_rfl, by kernel_rfl, by kernel_rfl⟩,
   ⟨by kernel_rfl, by kernel_rfl, by kernel_rfl, by kernel_rfl, by kernel_rfl⟩,
   ⟨by kernel_rfl, by kernel_rfl, by kernel_rfl, by kernel_rfl, by kernel_rfl⟩,
   ⟨by kernel_rfl, by kernel_rfl, by kernel_rfl, by kernel_rfl, by kernel_rfl⟩,
   ⟨by kernel_rfl, by kernel_rfl, by kernel_rfl, by kernel_rfl, by kernel_rfl⟩,
   ⟨by kernel_rfl, by kernel_rfl, by kernel_rfl, by kernel_rfl, by kernel_rfl⟩,
   ⟨by kernel_rfl, by kernel_rfl, by kernel_rfl, by kernel_rfl, by kernel_rfl⟩,
   ⟨by kernel_rfl, by kernel_rfl, by kernel_rfl, by kernel_rfl, by kernel_rfl⟩,
   ⟨by kernel_rfl, by kernel_rfl, by kernel_rfl, by kernel_rfl, by kernel_rfl⟩,
   ⟨by kernel_rfl, by kernel_rfl, by kernel_rfl, by kernel_rfl, by kernel_rfl⟩,
   ⟨by kernel_rfl, by kernel_rfl, by kernel_rfl, by kernel_rfl, by kernel_rfl⟩,
   ⟨by kernel_rfl, by kernel_rfl, by kernel_rfl, by kernel_rfl, by kernel_rfl⟩,
   ⟨by kernel_rfl, by kernel_rfl, by kernel_rfl, by kernel_rfl, by kernel_rfl⟩, trivial⟩
def hl : List (Nat × Hint) := [(4, ⟨([21, 22, 132, 136, 137, 140], [], []), [(5, [0, 25, 1, 9, 2, 28, 39, 25, 40, 3, 41, 3]), (11, [0, 25, 1, 9, 2, 28, 50, 28, 51, 3, 52, 3]), (27, [0, 25, 17, 25, 18, 39, 19, 0, 20, 39, 21, 25, 22, 42, 122, 42, 123, 3, 124, 3])], [], []⟩),
  (5, ⟨([], [], []), [(9, [0, 28, 3, 9, 6, 3, 36, 28, 37, 3, 38, 3])], [], []⟩),
  (8, ⟨([], [], []), [(13, [3, 0, 6, 42, 9, 9, 10, 25, 11, 0, 12, 39, 13, 0, 14, 39, 15, 3, 16, 3, 17, 3, 18, 3, 19, 3, 59, 42, 60, 3, 61, 3])], [], []⟩),
  (11, ⟨([], [], []), [(6, [3, 25, 4, 3])], [], []⟩),
  (12, ⟨([3, 6, 17, 23, 26], [], []), [(5, [0, 9, 3, 25, 4, 3, 5, 3])], [], []⟩),
  (13, ⟨([], [], []), [(5, [0, 9, 3, 25, 4, 3])], [], []⟩),
  (16, ⟨([], [], []), [(5, [33, 82, 34, 3, 35, 3]), (8, [33, 82, 34, 3, 35, 3, 39, 25, 40, 3, 41, 3])], [], []⟩),
  (18, ⟨([], [], []), [(3, [5, 25, 6, 3, 7, 3])], [], []⟩),
  (19, ⟨([], [], []), [(4, [0, 25, 1, 9, 5, 4, 6, 3])], [], []⟩),
  (20, ⟨([], [], []), [(4, [1, 28, 2, 0, 4, 0, 7, 0, 13, 28, 14, 3, 15, 3])], [], []⟩),
  (21, ⟨([], [], []), [(4, [0, 42, 1, 28, 7, 42, 8, 3])], [], []⟩),
  (22, ⟨([6, 22, 25], [], []), [(6, [1, 25, 6, 25, 13, 25, 14, 3, 15, 3])], [], []⟩),
  (23, ⟨([8, 35, 40], [], []), [(7, [2, 0, 4, 0, 8, 36, 23, 25, 24, 3, 25, 3])], [], []⟩),
  (25, ⟨([], [], []), [(5, [0, 25, 1, 25, 5, 3])], [], []⟩),
  (26, ⟨([], [], []), [(5, [0, 42, 1, 42, 5, 3])], [], []⟩),
  (27, ⟨([3, 13, 20], [], []), [(4, [3, 42, 7, 36, 8, 3, 9, 3])], [], []⟩),
  (28, ⟨([], [], []), [(3, [0, 28, 5, 28, 6, 3, 7, 3])], [], []⟩),
  (30, ⟨([4], [24, 26], []), [(4, [4, 0, 9, 28, 10, 3, 11, 3])], [], []⟩),
  (31, ⟨([], [], []), [(4, [0, 28, 4, 9, 5, 3])], [], []⟩),
  (32, ⟨([5], [102], []), [(19, [1, 0, 5, 0, 6, 101, 77, 25, 78, 3, 79, 3]), (24, [5, 0, 6, 101, 90, 25, 91, 3, 92, 3])], [(18, [1, 0, 5, 0, 6, 101])], []⟩),
  (33, ⟨([], [], []), [], [(7, [1, 0, 3, 4]), (9, [1, 0, 3, 4]), (11, [1, 0, 3, 4]), (13, [1, 0, 3, 4]), (15, [1, 0, 3, 4]), (17, [1, 0, 3, 4])], []⟩),
  (34, ⟨([], [], []), [(14, [1, 0, 3, 9, 4, 3]), (18, [1, 0, 3, 9, 5, 3])], [(5, [1, 0, 3, 9]), (7, [1, 0, 3, 9]), (9, [1, 0, 3, 9]), (12, [1, 0, 3, 9])], []⟩),
  (35, ⟨([4, 10, 11, 38, 58, 60, 61, 62, 63, 75, 77, 78, 79, 80], [17], []), [(5, [0, 9, 2, 0, 3, 0, 4, 0])], [], []⟩),
  (36, ⟨([], [], []), [(5, [0, 28, 1, 28, 5, 3])], [], []⟩),
  (37, ⟨([], [], []), [(3, [0, 28, 5, 28, 6, 3, 7, 3])], [], []⟩),
  (39, ⟨([3, 9, 13, 20, 30, 34], [16, 23, 33, 38, 41], []), [(4, [1, 0, 3, 119, 10, 3]), (11, [3, 119, 24, 36, 25, 3, 26, 3])], [], []⟩),
  (40, ⟨([3, 13, 24, 25, 28], [], []), [(4, [3, 25, 7, 36, 8, 3, 9, 3])], [], []⟩),
  (41, ⟨([7, 64, 67], [16, 21, 29, 31, 35, 41, 47, 50, 52, 61, 69], []), [(5, [2, 0, 4, 125, 5, 9, 17, 3]), (15, [2, 0, 4, 125, 6, 3, 7, 36, 8, 3]), (28, [2, 0, 7, 36, 14, 3])], [(10, [2, 0, 4, 125]), (13, [2, 0, 4, 125, 6, 3]), (24, [2, 0, 4, 125, 7, 36])], []⟩),
  (42, ⟨([4, 24, 27], [], []), [(4, [0, 25, 2, 0, 4, 36, 5, 25])], [], []⟩),
  (43, ⟨([], [], []), [(3, [2, 3, 3, 3, 4, 3, 8, 36, 9, 3, 10, 3])], [], []⟩),
  (44, ⟨([], [], []), [(4, [0, 25, 3, 9, 4, 3])], [], []⟩),
  (45, ⟨([], [], []), [(4, [0, 42, 3, 9, 4, 3])], [], []⟩),
  (46, ⟨([3, 5, 12, 29, 30, 36], [], []), [(4, [0, 42, 3, 25, 4, 3])], [], []⟩),
  (48, ⟨([], [9], []), [(7, [2, 0, 3, 0])], [], []⟩),
  (50, ⟨([], [], []), [(5, [0, 9, 3, 3])], [], []⟩),
  (52, ⟨([], [], []), [(8, [0, 9, 3, 9, 4, 3]), (12, [0, 9, 3, 9, 4, 3, 5, 4, 6, 3])], [], []⟩),
  (56, ⟨([], [10], []), [(4, [3, 0, 4, 0])], [], []⟩),
  (57, ⟨([], [], []), [(7, [5, 25, 6, 25, 7, 142, 8, 3]), (11, [5, 25, 6, 25, 7, 142, 8, 3, 9, 142, 10, 3])], [], []⟩),
  (58, ⟨([], [], []), [], [(13, [4, 0, 7, 0, 8, 39])], []⟩),
  (60, ⟨([5, 19, 23], [], []), [(4, [1, 9, 5, 25, 9, 36, 10, 3, 11, 3])], [], []⟩),
  (62, ⟨([], [], []), [(4, [2, 0, 4, 0, 9, 36, 10, 3, 11, 3])], [], []⟩),
  (63, ⟨([3, 13, 17], [], []), [(4, [3, 36, 7, 36, 8, 3, 9, 3])], [], []⟩),
  (64, ⟨([0, 9, 10, 11, 12], [7], []), [], [], []⟩),
  (67, ⟨([1], [6], []), [], [], []⟩),
  (68, ⟨([8], [57, 61, 70, 72, 74], []), [(13, [0, 25, 1, 9, 5, 3, 39, 25, 40, 3, 41, 3]), (23, [1, 9, 8, 0, 63, 25, 64, 3, 65, 3])], [(12, [0, 25, 1, 9, 5, 3]), (11, [0, 25, 1, 9, 5, 3]), (17, [0, 25, 1, 9, 5, 3, 7, 9, 39, 25, 40, 3, 41, 3])], []⟩),
  (71, ⟨([3, 6, 11, 19], [], []), [(4, [3, 68, 7, 30, 8, 3])], [], []⟩),
  (72, ⟨([], [], []), [(5, [1, 9, 5, 0, 6, 9, 7, 3]), (9, [1, 9, 5, 0, 6, 9, 7, 3, 8, 4, 9, 3])], [], []⟩),
  (73, ⟨([], [], []), [(3, [0, 25, 3, 3])], [], []⟩),
  (78, ⟨([], [], []), [(5, [1, 0, 3, 9, 4, 9, 5, 3])], [], []⟩),
  (84, ⟨([0, 5, 6, 7, 8], [], []), [], [], []⟩),
  (85, ⟨([0, 15, 20], [19, 23], []), [(4, [0, 119, 1, 3])], [], []⟩),
  (86, ⟨([0, 4, 9, 10, 11, 12], [7], []), [], [], []⟩),
  (87, ⟨([3], [14, 16], []), [(4, [3, 0, 6, 25, 7, 3, 8, 3])], [], []⟩),
  (90, ⟨([], [7], []), [], [], []⟩),
  (92, ⟨([], [14, 56, 63], []), [], [], [(1, [0, 125, 3, 3, 4, 3, 5, 3])]⟩),
  (94, ⟨([], [16, 24, 35], []), [], [], []⟩),
  (98, ⟨([], [], []), [(5, [0, 25, 1, 25, 12, 3, 13, 3])], [], []⟩),
  (101, ⟨([], [], []), [(5, [1, 36, 2, 134, 15, 36, 16, 3, 17, 3])], [], []⟩),
  (103, ⟨([], [7], []), [], [], []⟩),
  (104, ⟨([], [], []), [(5, [0, 9, 16, 3, 17, 3])], [], []⟩),
  (106, ⟨([], [], []), [(4, [0, 5, 3, 9, 4, 3])], [], []⟩),
  (110, ⟨([], [9, 11], []), [], [], []⟩),
  (114, ⟨([], [], []), [(5, [0, 9, 1, 9, 5, 142, 6, 3]), (9, [0, 9, 1, 9, 5, 142, 6, 3, 7, 142, 8, 3])], [], []⟩),
  (116, ⟨([], [], []), [], [(5, [1, 9, 2, 0, 4, 0, 6, 39])], []⟩),
  (118, ⟨([], [], []), [(3, [0, 42, 1, 9, 5, 3])], [], []⟩),
  (119, ⟨([], [], []), [(5, [0, 42, 1, 9, 5, 3])], [], []⟩),
  (120, ⟨([5, 8, 27, 30, 31, 37, 40, 43], [], []), [(5, [0, 42, 3, 0, 5, 42, 6, 4, 7, 3])], [(10, [0, 42, 3, 0, 5, 42, 6, 4, 7, 3])], []⟩),
  (121, ⟨([5, 7, 17, 23], [], []), [(4, [0, 42, 1, 3, 5, 42, 6, 3])], [], []⟩),
  (122, ⟨([6, 24, 31, 37, 45, 52, 94, 100], [], []), [(8, [0, 25, 3, 0, 6, 25, 7, 3]), (12, [0, 25, 3, 0, 6, 25, 8, 3]), (16, [0, 25, 3, 0, 6, 25, 9, 3]), (21, [0, 25, 6, 25, 10, 3])], [], []⟩),
  (125, ⟨([5], [], []), [], [], []⟩),
  (127, ⟨([], [], []), [(6, [1, 9, 17, 36, 18, 3, 19, 3])], [], []⟩),
  (128, ⟨([], [], []), [], [(6, [2, 0, 3, 0, 4, 0, 5, 3, 7, 3])], []⟩),
  (131, ⟨([], [], []), [], [(13, [1, 0, 3, 4]), (12, [1, 0, 3, 4, 40, 4])], []⟩),
  (132, ⟨([], [5, 24], []), [], [(4, [0, 91, 1, 3])], []⟩),
  (134, ⟨([], [], []), [(3, [0, 9, 3, 3])], [], []⟩),
  (135, ⟨([], [], []), [(1, [0, 24])], [(7, [0, 24, 3, 9])], []⟩),
  (139, ⟨([], [], []), [(3, [0, 25, 1, 9, 7, 3, 8, 3])], [], []⟩),
  (141, ⟨([], [], []), [(6, [0, 9, 2, 0, 4, 0, 12, 3])], [], []⟩),
  (143, ⟨([], [], []), [], [(3, [0, 125, 1, 3])], []⟩),
  (144, ⟨([], [13, 26], []), [], [(6, [0, 125, 7, 3])], []⟩),
  (148, ⟨([], [], [65]), [(12, [0, 9, 1, 9, 2, 3, 3, 3, 9, 25, 10, 3])], [(8, [0, 9, 1, 9, 2, 3, 3, 3]), (18, [0, 9, 9, 25, 10, 3])], []⟩),
  (149, ⟨([], [], []), [(3, [0, 25, 1, 24, 7, 3, 8, 3])], [], []⟩),
  (151, ⟨([], [], []), [], [(4, [0, 25])], []⟩),
  (152, ⟨([], [10], []), [], [], []⟩),
  (153, ⟨([], [], []), [(4, [0, 25, 1, 3, 2, 24, 3, 176, 9, 3, 10, 3, 11, 3, 12, 3]), (14, [0, 25, 2, 24, 9, 3])], [], []⟩),
  (157, ⟨([], [], []), [(2, [0, 177, 3, 3])], [], []⟩),
  (163, ⟨([], [], []), [(4, [0, 36, 1, 9, 2, 184, 8, 3, 9, 3, 10, 3])], [], []⟩),
  (168, ⟨([6, 24, 31, 33], [24], []), [(4, [0, 216, 3, 3, 9, 216, 10, 3, 11, 3]), (12, [6, 36, 25, 216, 26, 3, 27, 3])], [], []⟩),
  (172, ⟨([], [], []), [], [(13, [1, 0, 2, 0, 3, 0]), (10, [1, 0, 2, 0, 3, 0])], []⟩),
  (174, ⟨([], [], []), [], [(9, [0, 2, 5, 0, 6, 221])], []⟩),
  (179, ⟨([], [], []), [(11, [5, 9, 6, 3, 47, 68, 48, 3, 49, 3])], [(9, [0, 9, 5, 9])], []⟩),
  (180, ⟨([], [17, 24, 32, 40], []), [], [], []⟩),
  (181, ⟨([], [], []), [(2, [0, 24]), (6, [0, 24])], [], []⟩),
  (184, ⟨([], [], []), [(7, [0, 9, 1, 3, 6, 25, 7, 3])], [(5, [0, 9, 1, 3])], []⟩),
  (185, ⟨([], [], []), [(7, [0, 9, 1, 9, 5, 3])], [], []⟩),
  (186, ⟨([], [7, 11], []), [], [], []⟩),
  (187, ⟨([], [4], []), [], [], []⟩),
  (188, ⟨([], [], []), [(4, [0, 68, 1, 3, 2, 137, 3, 213, 9, 3, 10, 3, 11, 3, 12, 3]), (14, [0, 68, 2, 137, 9, 3])], [], []⟩),
  (192, ⟨([6, 24, 31, 33], [24], []), [(4, [0, 82, 3, 3, 9, 82, 10, 3, 11, 3]), (12, [6, 25, 25, 82, 26, 3, 27, 3])], [], []⟩),
  (195, ⟨([20], [4], []), [], [(4, [0, 999999, 1, 3])], []⟩),
  (200, ⟨([], [], []), [(2, [0, 68, 1, 221, 4, 3])], [(21, [0, 68, 4, 3, 12, 198]), (26, [0, 68, 4, 3, 12, 198])], []⟩),
  (201, ⟨([0, 95], [], []), [(12, [0, 68, 1, 221, 3, 4, 4, 4, 10, 68, 11, 9, 12, 0, 13, 3, 14, 157, 15, 221, 16, 157]), (19, [0, 68, 1, 221, 3, 4, 4, 4, 10, 68, 11, 9, 12, 0, 13, 3, 17, 221])], [(4, [0, 68, 1, 221, 2, 3, 3, 4, 4, 4, 10, 68, 11, 9]), (8, [0, 68, 1, 221, 2, 3, 3, 4, 4, 4, 10, 68, 11, 9, 12, 0, 13, 3]), (26, [0, 68, 3, 4, 4, 4, 10, 68, 11, 9, 12, 0, 13, 3]), (29, [0, 68, 4, 4, 10, 68, 11, 9, 12, 0, 13, 3])], []⟩),
  (203, ⟨([], [], []), [], [(11, [0, 9, 1, 3, 2, 3, 8, 4]), (17, [2, 3, 8, 4, 9, 221])], []⟩),
  (209, ⟨([], [], []), [(16, [0, 9, 1, 9, 5, 3, 6, 5, 7, 5, 8, 3, 9, 3, 10, 3])], [(22, [0, 9, 1, 9, 5, 3, 6, 5, 7, 5, 8, 3, 9, 3, 10, 3])], []⟩),
  (210, ⟨([], [], []), [(3, [2, 3, 4, 0])], [], []⟩),
  (212, ⟨([], [6], []), [], [], []⟩),
  (213, ⟨([], [7, 14], []), [], [], []⟩),
  (214, ⟨([11, 118, 119], [35, 50], []), [(7, [3, 25, 4, 4, 5, 3]), (16, [3, 25, 6, 0, 61, 3]), (21, [3, 25, 6, 0, 8, 3]), (29, [3, 25, 11, 0, 12, 3])], [(35, [3, 25, 11, 0, 12, 3, 13, 5, 14, 9])], []⟩),
  (215, ⟨([20], [4], []), [], [(4, [0, 999999, 1, 3])], []⟩),
  (218, ⟨([], [], []), [], [(5, [0, 221, 2, 3]), (8, [0, 221, 2, 3]), (11, [0, 221, 2, 3])], []⟩),
  (222, ⟨([], [], []), [(37, [1, 3, 8, 4, 9, 9, 10, 221, 11, 221, 12, 4, 13, 221, 99, 68, 100, 3, 101, 3])], [(22, [0, 9, 1, 3, 2, 3, 8, 4, 9, 9]), (26, [0, 9, 1, 3, 2, 3, 8, 4, 9, 9]), (33, [0, 9, 1, 3, 2, 3, 8, 4, 9, 9, 10, 221]), (47, [1, 3, 8, 4, 9, 9, 10, 221, 11, 221, 12, 4, 13, 221, 16, 5, 99, 68, 100, 3, 101, 3])], []⟩),
  (227, ⟨([], [], []), [(6, [0, 9, 1, 9, 5, 198, 6, 198, 7, 3, 8, 198, 9, 3]), (12, [0, 9, 1, 9, 5, 198, 6, 198, 7, 3, 8, 198, 10, 3])], [], []⟩),
  (229, ⟨([], [5], []), [], [], []⟩),
  (230, ⟨([], [5], []), [], [], []⟩),
  (231, ⟨([], [9], []), [], [], []⟩),
  (232, ⟨([], [6], []), [], [], []⟩),
  (233, ⟨([], [115], []), [(4, [0, 25, 3, 255, 4, 3]), (8, [0, 25, 3, 255, 4, 3, 5, 9, 6, 3]), (12, [0, 25, 3, 255, 40, 245, 41, 3]), (18, [0, 25, 3, 255, 9, 5, 57, 245, 58, 3]), (27, [0, 25, 3, 255, 12, 3])], [], []⟩),
  (237, ⟨([], [], []), [(11, [0, 9, 3, 21, 4, 3, 5, 4])], [(6, [0, 9, 3, 21, 4, 3]), (11, [0, 9, 3, 21, 4, 3, 5, 4])], []⟩),
  (238, ⟨([], [], []), [(4, [0, 9, 4, 198, 5, 3]), (9, [4, 198, 6, 198, 7, 198, 8, 3])], [(13, [4, 198, 6, 198, 7, 198, 8, 3])], []⟩),
  (239, ⟨([], [6, 12], []), [], [], []⟩),
  (240, ⟨([], [14, 19], []), [], [(4, [0, 285]), (7, [])], []⟩),
  (243, ⟨([], [], []), [(5, [0, 9, 3, 273, 4, 3, 20, 3]), (10, [0, 9, 3, 273, 4, 3, 6, 3]), (15, [0, 9, 3, 273, 4, 3, 7, 3, 8, 3]), (21, [0, 9, 3, 273, 4, 3, 9, 3])], [(19, [0, 9, 3, 273, 4, 3, 7, 3, 8, 3])], []⟩),
  (244, ⟨([], [77, 151, 184, 224, 240], []), [(7, [0, 277, 1, 9, 2, 9, 3, 3, 4, 255, 10, 3])], [(10, [0, 277, 1, 9, 2, 9, 3, 3, 4, 255, 10, 3]), (17, [0, 277, 1, 9, 2, 9, 3, 3, 4, 255, 11, 277]), (32, [0, 277, 1, 9, 2, 9, 3, 3, 4, 255, 14, 5])], []⟩),
  (249, ⟨([], [40, 80, 93, 130], []), [(6, [0, 285, 2, 2, 3, 4, 4, 4, 5, 3, 6, 21])], [(41, [0, 285]), (9, [0, 285, 2, 2, 3, 4, 4, 4, 5, 3]), (15, [0, 285, 2, 2, 3, 4, 4, 4, 5, 3, 6, 21, 7, 21]), (17, [0, 285, 2, 2, 3, 4, 4, 4, 5, 3, 6, 21, 7, 21]), (19, [0, 285, 2, 2, 3, 4, 4, 4, 5, 3, 6, 21, 7, 21]), (23, [0, 285, 2, 2, 3, 4, 4, 4, 5, 3, 6, 21, 7, 21]), (28, [0, 285, 2, 2, 3, 4, 8, 4]), (34, [0, 285, 3, 4, 6, 21]), (37, [0, 285, 9, 21])], []⟩),
  (252, ⟨([], [30, 34, 42], []), [(5, [0, 285, 4, 21])], [(3, [0, 285, 1, 21])], []⟩),
  (253, ⟨([], [], []), [(2, [0, 9, 1, 9, 4, 3])], [], []⟩),
  (279, ⟨([5], [16, 26, 33, 38, 57, 58], []), [(4, [0, 253, 1, 9, 5, 0, 6, 3, 7, 4])], [], []⟩),
  (280, ⟨([], [21], []), [(4, [0, 253, 2, 9, 6, 3, 8, 315, 9, 3])], [], []⟩),
  (281, ⟨([], [], []), [(3, [0, 273, 1, 9, 5, 3]), (5, [0, 273, 1, 9, 5, 3, 6, 3])], [], []⟩),
  (282, ⟨([], [12], []), [], [], []⟩),
  (283, ⟨([], [69], []), [(6, [0, 255, 2, 9, 6, 3, 7, 95, 8, 315, 9, 3, 11, 4, 12, 3])], [(11, [0, 255, 2, 9, 6, 3, 7, 95, 8, 315, 9, 3, 11, 4, 12, 3])], []⟩),
  (285, ⟨([], [], []), [(5, [0, 255, 1, 9, 2, 4, 6, 9, 7, 3, 8, 4, 9, 3, 10, 277, 11, 3])], [(11, [0, 255, 1, 9, 2, 4, 6, 9, 7, 3, 8, 4, 9, 3, 10, 277, 11, 3])], []⟩),
  (286, ⟨([], [], []), [(4, [0, 258, 1, 9, 5, 68, 6, 3])], [(10, [0, 258, 1, 9, 5, 68, 6, 3, 7, 5])], []⟩),
  (287, ⟨([], [], []), [(5, [0, 258, 1, 313, 2, 9, 6, 3, 8, 315, 9, 3, 10, 3])], [(14, [0, 258, 1, 313, 2, 9, 6, 3, 8, 315, 10, 3, 11, 5])], []⟩),
  (288, ⟨([], [], [105]), [(6, [0, 262, 1, 9, 5, 3, 6, 4, 30, 25, 31, 3, 32, 3]), (14, [0, 262, 1, 9, 5, 3, 6, 4, 10, 3]), (25, [0, 262, 1, 9, 12, 68, 13, 3, 14, 3])], [(20, [0, 262, 1, 9, 5, 3, 6, 4])], []⟩),
  (289, ⟨([], [], []), [(5, [0, 262, 1, 313, 2, 9, 6, 3, 7, 95, 8, 315, 9, 3, 10, 3])], [(14, [0, 262, 1, 313, 2, 9, 6, 3, 7, 95, 8, 315, 10, 3, 11, 5])], []⟩),
  (292, ⟨([0, 7, 8, 9], [], []), [], [], []⟩),
  (293, ⟨([0, 7, 8, 9], [], []), [], [], []⟩),
  (295, ⟨([0, 9, 10, 11, 12], [7], []), [], [], []⟩),
  (296, ⟨([], [13], []), [], [], []⟩)]
def hasc (k : Nat) : List (Nat × Hint) → Hint
  | [] => ⟨([], [], []), [], [], []⟩
  | (u, x) :: l => bif Nat.beq u k then x else hasc k l
def H (f : Nat) : Hint := hasc f hl
def ov : Nat → Option (Bool × Sh × HSh × Option HSh)
  | 89 => some (false, .ptr 0 0, [.typed 166 c165], none)
  | 195 => some (true, .own 88 2 c50 0, [.tail], none)
  | 215 => some (true, .own 9 1 .s 0, [.tail], none)
  | 64 => some (false, .tup (.cons (.p (.i .i64)) (.cons (.p .er) .nil)), [], none)
  | 65 => some (false, .p .s, [], some [.cells 93 (.cons (.np 0 0) (.cons (.p (.sl 1 .u)) .nil)), .tail])
  | 295 => some (false, .tup (.cons (.p (.i .i64)) (.cons (.p .er) .nil)), [], none)
  | 79 => some (false, .fn 135 (.cons (.ptr 0 0) .nil), [.typed 9 .s], none)
  | 103 => some (false, .fn 181 (.cons (.ptr 1 0) (.cons (.ptr 0 0) (.cons (.ptr 2 0) .nil))), [.typed 9 .s, .typed 9 .s, .typed 3 (.i .i64)], none)
  | 113 => some (false, .fn 157 (.cons (.ptr 0 0) .nil), [.typed 25 (.sl 1 .s)], none)
  | 147 => some (false, .fn 181 (.cons (.ptr 1 0) (.cons (.ptr 0 0) (.cons (.ptr 2 0) .nil))), [.typed 9 .s, .typed 9 .s, .typed 3 (.i .i64)], none)
  | _ => none
theorem mixed : (Tryz.prog).follows .mixedOrders = true := by kernel_rfl
end Go.Proofs.YtmjkflppajienaaGreatDoor.R
