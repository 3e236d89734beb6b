/- The table of the program's types, and that the program says so. No condition. -/
import Derived.Test.YtijjagkeaehhbaaEngS
import Derived.Test.YtijjagkeaehhbaaProg
set_option linter.unusedSimpArgs false
set_option linter.unusedVariables false
namespace Go.Proofs.Ytijjagkeaehhbaa.Eng

def ti1 : TI := ⟨false, 1, 8, [.nilf], [], none, false, none⟩
def ti2 : TI := ⟨false, 1, 8, [.int .i64 0], [], none, false, some .i64⟩
def ti3 : TI := ⟨false, 1, 8, [.int .i64 0], [], none, false, some .i64⟩
def ti4 : TI := ⟨false, 1, 1, [.bool false], [], none, false, none⟩
def ti5 : TI := ⟨false, 1, 1, [.int .u8 0], [], none, false, some .u8⟩
def ti6 : TI := ⟨false, 1, 1, [.int .u8 0], [], none, false, some .u8⟩
def ti7 : TI := ⟨true, 4, 24, [.int .i64 0, .int .i64 0, .bool false, .int .u8 0], [(0, 1, false), (1, 1, false), (2, 1, false), (3, 1, false)], none, false, none⟩
def ti8 : TI := ⟨true, 4, 24, [.int .i64 0, .int .i64 0, .bool false, .int .u8 0], [(0, 1, false), (1, 1, false), (2, 1, false), (3, 1, false)], none, false, none⟩
def ti9 : TI := ⟨false, 1, 16, [.str ⟨#[]⟩], [], none, true, none⟩
def ti10 : TI := ⟨false, 1, 16, [.str ⟨#[]⟩], [], none, true, none⟩
def ti11 : TI := ⟨false, 1, 16, [.str ⟨#[]⟩], [], none, true, none⟩
def ti12 : TI := ⟨false, 1, 8, [.int .u64 0], [], none, false, some .u64⟩
def ti13 : TI := ⟨true, 2, 24, [.str ⟨#[]⟩, .int .u64 0], [(0, 1, false), (1, 1, false)], none, false, none⟩
def ti14 : TI := ⟨true, 2, 24, [.str ⟨#[]⟩, .int .u64 0], [(0, 1, false), (1, 1, false)], none, false, none⟩
def ti15 : TI := ⟨false, 1, 8, [.nilp], [], none, false, none⟩
def ti16 : TI := ⟨false, 1, 8, [.nilp], [], none, false, none⟩
def ti17 : TI := ⟨false, 1, 8, [.nilp], [], none, false, none⟩
def ti18 : TI := ⟨true, 1, 8, [.nilp], [(0, 1, false)], none, false, none⟩
def ti19 : TI := ⟨true, 1, 8, [.nilp], [(0, 1, false)], none, false, none⟩
def ti20 : TI := ⟨false, 1, 16, [.nilif], [], none, false, none⟩
def ti21 : TI := ⟨false, 1, 4, [.int .i32 0], [], none, false, some .i32⟩
def ti22 : TI := ⟨false, 1, 24, [.nils], [], some 84, false, none⟩
def ti23 : TI := ⟨false, 1, 24, [.nils], [], some 3, false, none⟩
def ti24 : TI := ⟨false, 1, 24, [.nils], [], some 164, false, none⟩
def ti25 : TI := ⟨false, 1, 24, [.nils], [], some 31, false, none⟩
def ti26 : TI := ⟨true, 5, 112, [.str ⟨#[]⟩, .nils, .nils, .nils, .nils], [(0, 1, false), (1, 1, false), (2, 1, false), (3, 1, false), (4, 1, false)], none, false, none⟩
def ti27 : TI := ⟨true, 5, 112, [.str ⟨#[]⟩, .nils, .nils, .nils, .nils], [(0, 1, false), (1, 1, false), (2, 1, false), (3, 1, false), (4, 1, false)], none, false, none⟩
def ti28 : TI := ⟨true, 3, 32, [.int .i64 0, .int .i64 0, .str ⟨#[]⟩], [(0, 1, false), (1, 1, false), (2, 1, false)], none, false, none⟩
def ti29 : TI := ⟨true, 3, 32, [.int .i64 0, .int .i64 0, .str ⟨#[]⟩], [(0, 1, false), (1, 1, false), (2, 1, false)], none, false, none⟩
def ti30 : TI := ⟨true, 7, 88, [.int .i64 0, .int .i64 0, .int .i64 0, .int .i64 0, .str ⟨#[]⟩, .str ⟨#[]⟩, .nils], [(0, 1, false), (1, 1, false), (2, 3, true), (5, 1, false), (6, 1, false)], none, false, none⟩
def ti31 : TI := ⟨true, 7, 88, [.int .i64 0, .int .i64 0, .int .i64 0, .int .i64 0, .str ⟨#[]⟩, .str ⟨#[]⟩, .nils], [(0, 1, false), (1, 1, false), (2, 3, true), (5, 1, false), (6, 1, false)], none, false, none⟩
def ti32 : TI := ⟨true, 3, 24, [.int .i64 0, .int .i64 0, .int .i64 0], [(0, 1, false), (1, 1, false), (2, 1, false)], none, false, none⟩
def ti33 : TI := ⟨true, 3, 24, [.int .i64 0, .int .i64 0, .int .i64 0], [(0, 1, false), (1, 1, false), (2, 1, false)], none, false, none⟩
def ti34 : TI := ⟨true, 2, 16, [.int .i64 0, .int .i64 0], [(0, 1, false), (1, 1, false)], none, false, none⟩
def ti35 : TI := ⟨true, 2, 16, [.int .i64 0, .int .i64 0], [(0, 1, false), (1, 1, false)], none, false, none⟩
def ti36 : TI := ⟨false, 1, 8, [.nilf], [], none, false, none⟩
def ti37 : TI := ⟨false, 1, 8, [.nilf], [], none, false, none⟩
def ti38 : TI := ⟨false, 1, 8, [.nilf], [], none, false, none⟩
def ti39 : TI := ⟨false, 1, 24, [.nils], [], some 29, false, none⟩
def ti40 : TI := ⟨true, 4, 32, [.int .i64 0, .int .i64 0, .int .i64 0, .int .i64 0], [(0, 2, true), (2, 2, true)], none, false, none⟩
def ti41 : TI := ⟨true, 4, 32, [.int .i64 0, .int .i64 0, .int .i64 0, .int .i64 0], [(0, 2, true), (2, 2, true)], none, false, none⟩
def ti42 : TI := ⟨true, 6, 64, [.int .i64 0, .nils, .int .i64 0, .int .i64 0, .int .i64 0, .int .i64 0], [(0, 1, false), (1, 1, false), (2, 4, true)], none, false, none⟩
def ti43 : TI := ⟨true, 6, 64, [.int .i64 0, .nils, .int .i64 0, .int .i64 0, .int .i64 0, .int .i64 0], [(0, 1, false), (1, 1, false), (2, 4, true)], none, false, none⟩
def ti44 : TI := ⟨false, 1, 8, [.nilf], [], none, false, none⟩
def ti45 : TI := ⟨false, 1, 8, [.nilf], [], none, false, none⟩
def ti46 : TI := ⟨false, 1, 8, [.nilf], [], none, false, none⟩
def ti47 : TI := ⟨false, 1, 8, [.nilf], [], none, false, none⟩
def ti48 : TI := ⟨true, 9, 88, [.int .i64 0, .int .i64 0, .nils, .int .i64 0, .int .i64 0, .int .i64 0, .int .i64 0, .int .i64 0, .int .i64 0], [(0, 1, false), (1, 1, false), (2, 1, false), (3, 2, true), (5, 2, true), (7, 1, false), (8, 1, false)], none, false, none⟩
def ti49 : TI := ⟨true, 9, 88, [.int .i64 0, .int .i64 0, .nils, .int .i64 0, .int .i64 0, .int .i64 0, .int .i64 0, .int .i64 0, .int .i64 0], [(0, 1, false), (1, 1, false), (2, 1, false), (3, 2, true), (5, 2, true), (7, 1, false), (8, 1, false)], none, false, none⟩
def ti50 : TI := ⟨false, 1, 8, [.nilf], [], none, false, none⟩
def ti51 : TI := ⟨true, 3, 40, [.int .i64 0, .nils, .int .i64 0], [(0, 1, false), (1, 1, false), (2, 1, false)], none, false, none⟩
def ti52 : TI := ⟨true, 3, 40, [.int .i64 0, .nils, .int .i64 0], [(0, 1, false), (1, 1, false), (2, 1, false)], none, false, none⟩
def ti53 : TI := ⟨false, 1, 8, [.nilp], [], none, false, none⟩
def ti54 : TI := ⟨false, 1, 8, [.int .i64 0], [], none, false, some .i64⟩
def ti56 : TI := ⟨false, 1, 8, [.nilf], [], none, false, none⟩
def ti57 : TI := ⟨false, 1, 8, [.nilf], [], none, false, none⟩
def ti58 : TI := ⟨false, 1, 8, [.nilf], [], none, false, none⟩
def ti59 : TI := ⟨false, 1, 8, [.nilf], [], none, false, none⟩
def ti60 : TI := ⟨false, 1, 8, [.nilf], [], none, false, none⟩
def ti61 : TI := ⟨false, 1, 8, [.nilf], [], none, false, none⟩
def ti62 : TI := ⟨false, 1, 24, [.nils], [], some 52, false, none⟩
def ti63 : TI := ⟨false, 1, 8, [.nilf], [], none, false, none⟩
def ti64 : TI := ⟨false, 1, 24, [.nils], [], some 127, false, none⟩
def ti65 : TI := ⟨false, 1, 24, [.nils], [], some 127, false, none⟩
def ti67 : TI := ⟨false, 1, 8, [.nilf], [], none, false, none⟩
def ti68 : TI := ⟨false, 1, 8, [.nilf], [], none, false, none⟩
def ti69 : TI := ⟨false, 1, 8, [.nilf], [], none, false, none⟩
def ti70 : TI := ⟨false, 1, 8, [.nilf], [], none, false, none⟩
def ti71 : TI := ⟨false, 1, 8, [.nilf], [], none, false, none⟩
def ti72 : TI := ⟨false, 1, 8, [.nilf], [], none, false, none⟩
def ti73 : TI := ⟨false, 1, 8, [.nilf], [], none, false, none⟩
def ti74 : TI := ⟨false, 1, 8, [.nilf], [], none, false, none⟩
def ti75 : TI := ⟨false, 1, 8, [.nilf], [], none, false, none⟩
def ti76 : TI := ⟨false, 1, 8, [.nilf], [], none, false, none⟩
def ti77 : TI := ⟨false, 1, 8, [.nilf], [], none, false, none⟩
def ti79 : TI := ⟨false, 1, 8, [.nilf], [], none, false, none⟩
def ti80 : TI := ⟨false, 1, 8, [.nilf], [], none, false, none⟩
def ti81 : TI := ⟨false, 1, 8, [.nilf], [], none, false, none⟩
def ti82 : TI := ⟨false, 1, 8, [.nilf], [], none, false, none⟩
def ti83 : TI := ⟨true, 3, 32, [.str ⟨#[]⟩, .int .i64 0, .bool false], [(0, 1, false), (1, 1, false), (2, 1, false)], none, false, none⟩
def ti84 : TI := ⟨true, 3, 32, [.str ⟨#[]⟩, .int .i64 0, .bool false], [(0, 1, false), (1, 1, false), (2, 1, false)], none, false, none⟩
def ti85 : TI := ⟨false, 1, 8, [.nilf], [], none, false, none⟩
def ti86 : TI := ⟨false, 1, 8, [.nilf], [], none, false, none⟩
def ti87 : TI := ⟨false, 1, 8, [.nilf], [], none, false, none⟩
def ti88 : TI := ⟨false, 1, 8, [.nilf], [], none, false, none⟩
def ti89 : TI := ⟨false, 1, 24, [.nils], [], some 132, false, none⟩
def ti90 : TI := ⟨false, 1, 8, [.nilf], [], none, false, none⟩
def ti92 : TI := ⟨false, 1, 8, [.nilf], [], none, false, none⟩
def ti93 : TI := ⟨false, 1, 16, [.nilif], [], none, false, none⟩
def ti94 : TI := ⟨false, 1, 16, [.nilif], [], none, false, none⟩
def ti95 : TI := ⟨false, 1, 8, [.nilf], [], none, false, none⟩
def ti96 : TI := ⟨true, 2, 16, [.int .i64 0, .int .i64 0], [(0, 2, true)], none, false, none⟩
def ti97 : TI := ⟨true, 2, 16, [.int .i64 0, .int .i64 0], [(0, 2, true)], none, false, none⟩
def ti98 : TI := ⟨true, 4, 32, [.int .i64 0, .int .i64 0, .int .i64 0, .int .i64 0], [(0, 4, true)], none, false, none⟩
def ti99 : TI := ⟨true, 4, 32, [.int .i64 0, .int .i64 0, .int .i64 0, .int .i64 0], [(0, 4, true)], none, false, none⟩
def ti100 : TI := ⟨true, 1, 24, [.nils], [(0, 1, false)], none, false, none⟩
def ti101 : TI := ⟨true, 1, 24, [.nils], [(0, 1, false)], none, false, none⟩
def ti102 : TI := ⟨false, 1, 8, [.nilf], [], none, false, none⟩
def ti103 : TI := ⟨false, 1, 8, [.nilf], [], none, false, none⟩
def ti104 : TI := ⟨false, 1, 8, [.nilf], [], none, false, none⟩
def ti105 : TI := ⟨false, 1, 8, [.nilp], [], none, false, none⟩
def ti106 : TI := ⟨true, 3, 24, [.nilp, .int .i64 0, .int .i64 0], [(0, 1, false), (1, 1, false), (2, 1, false)], none, false, none⟩
def ti107 : TI := ⟨true, 3, 24, [.nilp, .int .i64 0, .int .i64 0], [(0, 1, false), (1, 1, false), (2, 1, false)], none, false, none⟩
def ti108 : TI := ⟨false, 1, 8, [.nilf], [], none, false, none⟩
def ti109 : TI := ⟨true, 2, 32, [.nils, .int .i64 0], [(0, 1, false), (1, 1, false)], none, false, none⟩
def ti110 : TI := ⟨true, 2, 32, [.nils, .int .i64 0], [(0, 1, false), (1, 1, false)], none, false, none⟩
def ti111 : TI := ⟨false, 1, 8, [.nilf], [], none, false, none⟩
def ti112 : TI := ⟨false, 1, 24, [.nils], [], some 110, false, none⟩
def ti113 : TI := ⟨false, 1, 24, [.nils], [], some 105, false, none⟩
def ti114 : TI := ⟨true, 2, 48, [.nils, .nils], [(0, 1, false), (1, 1, false)], none, false, none⟩
def ti115 : TI := ⟨true, 2, 48, [.nils, .nils], [(0, 1, false), (1, 1, false)], none, false, none⟩
def ti116 : TI := ⟨false, 1, 8, [.nilf], [], none, false, none⟩
def ti118 : TI := ⟨false, 1, 8, [.nilf], [], none, false, none⟩
def ti119 : TI := ⟨false, 1, 8, [.nilf], [], none, false, none⟩
def ti120 : TI := ⟨false, 1, 8, [.nilf], [], none, false, none⟩
def ti121 : TI := ⟨false, 1, 8, [.nilf], [], none, false, none⟩
def ti122 : TI := ⟨false, 1, 8, [.nilf], [], none, false, none⟩
def ti123 : TI := ⟨false, 1, 8, [.nilf], [], none, false, none⟩
def ti124 : TI := ⟨false, 1, 8, [.nilf], [], none, false, none⟩
def ti125 : TI := ⟨false, 1, 8, [.nilf], [], none, false, none⟩
def ti126 : TI := ⟨true, 2, 32, [.nils, .int .i64 0], [(0, 1, false), (1, 1, false)], none, false, none⟩
def ti127 : TI := ⟨true, 2, 32, [.nils, .int .i64 0], [(0, 1, false), (1, 1, false)], none, false, none⟩
def ti128 : TI := ⟨false, 1, 8, [.nilf], [], none, false, none⟩
def ti129 : TI := ⟨false, 1, 8, [.nilf], [], none, false, none⟩
def ti130 : TI := ⟨false, 1, 8, [.nilf], [], none, false, none⟩
def ti131 : TI := ⟨true, 5, 48, [.int .i64 0, .int .i64 0, .int .i64 0, .int .i64 0, .str ⟨#[]⟩], [(0, 1, false), (1, 1, false), (2, 3, true)], none, false, none⟩
def ti132 : TI := ⟨true, 5, 48, [.int .i64 0, .int .i64 0, .int .i64 0, .int .i64 0, .str ⟨#[]⟩], [(0, 1, false), (1, 1, false), (2, 3, true)], none, false, none⟩
def ti133 : TI := ⟨false, 1, 8, [.nilf], [], none, false, none⟩
def ti134 : TI := ⟨false, 1, 8, [.nilf], [], none, false, none⟩
def ti136 : TI := ⟨false, 1, 8, [.nilf], [], none, false, none⟩
def ti139 : TI := ⟨false, 1, 8, [.nilf], [], none, false, none⟩
def ti141 : TI := ⟨false, 1, 8, [.nilf], [], none, false, none⟩
def ti142 : TI := ⟨false, 1, 8, [.nilf], [], none, false, none⟩
def ti143 : TI := ⟨false, 1, 8, [.nilf], [], none, false, none⟩
def ti144 : TI := ⟨false, 1, 8, [.nilf], [], none, false, none⟩
def ti145 : TI := ⟨false, 1, 8, [.nilf], [], none, false, none⟩
def ti146 : TI := ⟨false, 1, 8, [.nilf], [], none, false, none⟩
def ti147 : TI := ⟨false, 1, 8, [.nilf], [], none, false, none⟩
def ti148 : TI := ⟨false, 1, 8, [.nilf], [], none, false, none⟩
def ti149 : TI := ⟨false, 1, 8, [.nilf], [], none, false, none⟩
def ti150 : TI := ⟨false, 1, 8, [.nilf], [], none, false, none⟩
def ti151 : TI := ⟨false, 1, 8, [.nilf], [], none, false, none⟩
def ti152 : TI := ⟨false, 1, 8, [.nilf], [], none, false, none⟩
def ti154 : TI := ⟨false, 1, 8, [.nilf], [], none, false, none⟩
def ti155 : TI := ⟨false, 1, 8, [.nilf], [], none, false, none⟩
def ti156 : TI := ⟨false, 1, 8, [.nilf], [], none, false, none⟩
def ti157 : TI := ⟨false, 1, 8, [.nilf], [], none, false, none⟩
def ti158 : TI := ⟨false, 1, 24, [.nils], [], some 9, false, none⟩
def ti159 : TI := ⟨false, 1, 8, [.nilf], [], none, false, none⟩
def ti160 : TI := ⟨false, 1, 8, [.nilf], [], none, false, none⟩
def ti161 : TI := ⟨false, 1, 8, [.nilf], [], none, false, none⟩
def ti162 : TI := ⟨false, 1, 8, [.nilf], [], none, false, none⟩
def ti163 : TI := ⟨true, 2, 40, [.nils, .str ⟨#[]⟩], [(0, 1, false), (1, 1, false)], none, false, none⟩
def ti164 : TI := ⟨true, 2, 40, [.nils, .str ⟨#[]⟩], [(0, 1, false), (1, 1, false)], none, false, none⟩
def ti165 : TI := ⟨false, 1, 8, [.nilf], [], none, false, none⟩
def ti166 : TI := ⟨false, 1, 8, [.nilf], [], none, false, none⟩
def ti167 : TI := ⟨false, 1, 8, [.nilf], [], none, false, none⟩
def ti168 : TI := ⟨false, 1, 8, [.nilf], [], none, false, none⟩
def ti169 : TI := ⟨false, 1, 8, [.nilf], [], none, false, none⟩
def ti170 : TI := ⟨false, 1, 8, [.nilf], [], none, false, none⟩
def ti171 : TI := ⟨false, 1, 8, [.nilf], [], none, false, none⟩
def ti172 : TI := ⟨false, 1, 8, [.nilf], [], none, false, none⟩
def ti173 : TI := ⟨false, 1, 8, [.nilf], [], none, false, none⟩
def ti174 : TI := ⟨false, 1, 8, [.nilf], [], none, false, none⟩
def ti175 : TI := ⟨false, 1, 8, [.nilf], [], none, false, none⟩
def ti176 : TI := ⟨false, 1, 8, [.nilf], [], none, false, none⟩
def ti177 : TI := ⟨false, 1, 8, [.nilf], [], none, false, none⟩
def ti178 : TI := ⟨false, 1, 8, [.nilf], [], none, false, none⟩
def ti179 : TI := ⟨false, 1, 8, [.nilf], [], none, false, none⟩
def ti180 : TI := ⟨false, 1, 8, [.nilf], [], none, false, none⟩
def ti181 : TI := ⟨false, 1, 8, [.nilf], [], none, false, none⟩
def ti182 : TI := ⟨false, 1, 8, [.int .u64 0], [], none, false, some .u64⟩
def ti183 : TI := ⟨false, 1, 8, [.nilf], [], none, false, none⟩
def ti184 : TI := ⟨false, 1, 8, [.nilf], [], none, false, none⟩
def ti185 : TI := ⟨false, 1, 8, [.nilf], [], none, false, none⟩
def ti186 : TI := ⟨false, 1, 8, [.nilf], [], none, false, none⟩
def ti187 : TI := ⟨false, 1, 8, [.nilf], [], none, false, none⟩
def ti188 : TI := ⟨true, 4, 40, [.nilp, .nilp, .nilp, .str ⟨#[]⟩], [(0, 1, false), (1, 1, false), (2, 1, false), (3, 1, false)], none, false, none⟩
def ti189 : TI := ⟨true, 4, 40, [.nilp, .nilp, .nilp, .str ⟨#[]⟩], [(0, 1, false), (1, 1, false), (2, 1, false), (3, 1, false)], none, false, none⟩
def ti193 : TI := ⟨false, 1, 4, [.int .u32 0], [], none, false, some .u32⟩
def ti194 : TI := ⟨false, 1, 1, [.int .u8 0], [], none, false, some .u8⟩
def ti195 : TI := ⟨false, 1, 1, [.int .u8 0], [], none, false, some .u8⟩
def ti196 : TI := ⟨false, 1, 8, [.nilf], [], none, false, none⟩
def ti197 : TI := ⟨false, 1, 8, [.nilp], [], none, false, none⟩
def ti198 : TI := ⟨false, 1, 4, [.int .i32 0], [], none, false, some .i32⟩
def ti199 : TI := ⟨false, 1, 4, [.int .i32 0], [], none, false, some .i32⟩
def ti200 : TI := ⟨true, 11, 48, [.int .u64 0, .int .u64 0, .int .u32 0, .int .u8 0, .int .u8 0, .int .u8 0, .int .u8 0, .nilf, .nilp, .int .i32 0, .int .i32 0], [(0, 1, false), (1, 1, false), (2, 1, false), (3, 1, false), (4, 1, false), (5, 1, false), (6, 1, false), (7, 1, false), (8, 1, false), (9, 1, false), (10, 1, false)], none, false, none⟩
def ti201 : TI := ⟨true, 11, 48, [.int .u64 0, .int .u64 0, .int .u32 0, .int .u8 0, .int .u8 0, .int .u8 0, .int .u8 0, .nilf, .nilp, .int .i32 0, .int .i32 0], [(0, 1, false), (1, 1, false), (2, 1, false), (3, 1, false), (4, 1, false), (5, 1, false), (6, 1, false), (7, 1, false), (8, 1, false), (9, 1, false), (10, 1, false)], none, false, none⟩
def ti202 : TI := ⟨false, 1, 8, [.nilf], [], none, false, none⟩
def ti203 : TI := ⟨false, 1, 8, [.nilp], [], none, false, none⟩
def ti204 : TI := ⟨false, 1, 8, [.nilp], [], none, false, none⟩
def ti205 : TI := ⟨false, 1, 24, [.nils], [], some 49, false, none⟩
def ti206 : TI := ⟨false, 1, 8, [.nilp], [], none, false, none⟩
def ti207 : TI := ⟨false, 1, 24, [.nils], [], some 213, false, none⟩
def ti208 : TI := ⟨true, 4, 64, [.nils, .nilp, .nilp, .nils], [(0, 1, false), (1, 1, false), (2, 1, false), (3, 1, false)], none, false, none⟩
def ti209 : TI := ⟨true, 4, 64, [.nils, .nilp, .nilp, .nils], [(0, 1, false), (1, 1, false), (2, 1, false), (3, 1, false)], none, false, none⟩
def ti210 : TI := ⟨false, 1, 8, [.nilp], [], none, false, none⟩
def ti211 : TI := ⟨true, 2, 16, [.nilp, .int .i64 0], [(0, 1, false), (1, 1, false)], none, false, none⟩
def ti212 : TI := ⟨true, 2, 16, [.nilp, .int .i64 0], [(0, 1, false), (1, 1, false)], none, false, none⟩
def ti213 : TI := ⟨false, 1, 8, [.nilp], [], none, false, none⟩
def ti214 : TI := ⟨true, 3, 24, [.int .i64 0, .int .i64 0, .int .i64 0], [(0, 2, true), (2, 1, false)], none, false, none⟩
def ti215 : TI := ⟨true, 3, 24, [.int .i64 0, .int .i64 0, .int .i64 0], [(0, 2, true), (2, 1, false)], none, false, none⟩
def ti216 : TI := ⟨true, 7, 56, [.int .i64 0, .int .i64 0, .int .i64 0, .nilp, .nilp, .int .i64 0, .int .i64 0], [(0, 3, true), (3, 1, false), (4, 1, false), (5, 1, false), (6, 1, false)], none, false, none⟩
def ti217 : TI := ⟨true, 7, 56, [.int .i64 0, .int .i64 0, .int .i64 0, .nilp, .nilp, .int .i64 0, .int .i64 0], [(0, 3, true), (3, 1, false), (4, 1, false), (5, 1, false), (6, 1, false)], none, false, none⟩
def ti218 : TI := ⟨false, 1, 8, [.nilp], [], none, false, none⟩
def ti219 : TI := ⟨true, 3, 24, [.nilp, .int .i64 0, .int .i64 0], [(0, 1, false), (1, 1, false), (2, 1, false)], none, false, none⟩
def ti220 : TI := ⟨true, 3, 24, [.nilp, .int .i64 0, .int .i64 0], [(0, 1, false), (1, 1, false), (2, 1, false)], none, false, none⟩
def ti221 : TI := ⟨false, 1, 24, [.nils], [], some 226, false, none⟩
def ti222 : TI := ⟨false, 1, 24, [.nils], [], some 218, false, none⟩
def ti223 : TI := ⟨true, 6, 80, [.int .i64 0, .int .i64 0, .int .i64 0, .int .i64 0, .nils, .nils], [(0, 4, true), (4, 1, false), (5, 1, false)], none, false, none⟩
def ti224 : TI := ⟨true, 6, 80, [.int .i64 0, .int .i64 0, .int .i64 0, .int .i64 0, .nils, .nils], [(0, 4, true), (4, 1, false), (5, 1, false)], none, false, none⟩
def ti225 : TI := ⟨true, 5, 40, [.int .i64 0, .int .i64 0, .int .i64 0, .int .i64 0, .int .i64 0], [(0, 4, true), (4, 1, false)], none, false, none⟩
def ti226 : TI := ⟨true, 5, 40, [.int .i64 0, .int .i64 0, .int .i64 0, .int .i64 0, .int .i64 0], [(0, 4, true), (4, 1, false)], none, false, none⟩
def tp0 (t : Nat) : Option TI := (bif Nat.blt t 16 then (bif Nat.blt t 8 then (bif Nat.blt t 4 then (bif Nat.blt t 2 then (bif Nat.blt t 1 then none else some ti1) else (bif Nat.blt t 3 then some ti2 else some ti3)) else (bif Nat.blt t 6 then (bif Nat.blt t 5 then some ti4 else some ti5) else (bif Nat.blt t 7 then some ti6 else some ti7))) else (bif Nat.blt t 12 then (bif Nat.blt t 10 then (bif Nat.blt t 9 then some ti8 else some ti9) else (bif Nat.blt t 11 then some ti10 else some ti11)) else (bif Nat.blt t 14 then (bif Nat.blt t 13 then some ti12 else some ti13) else (bif Nat.blt t 15 then some ti14 else some ti15)))) else (bif Nat.blt t 24 then (bif Nat.blt t 20 then (bif Nat.blt t 18 then (bif Nat.blt t 17 then some ti16 else some ti17) else (bif Nat.blt t 19 then some ti18 else some ti19)) else (bif Nat.blt t 22 then (bif Nat.blt t 21 then some ti20 else some ti21) else (bif Nat.blt t 23 then some ti22 else some ti23))) else (bif Nat.blt t 28 then (bif Nat.blt t 26 then (bif Nat.blt t 25 then some ti24 else some ti25) else (bif Nat.blt t 27 then some ti26 else some ti27)) else (bif Nat.blt t 30 then (bif Nat.blt t 29 then some ti28 else some ti29) else (bif Nat.blt t 31 then some ti30 else some ti31)))))
def tp1 (t : Nat) : Option TI := (bif Nat.blt t 48 then (bif Nat.blt t 40 then (bif Nat.blt t 36 then (bif Nat.blt t 34 then (bif Nat.blt t 33 then some ti32 else some ti33) else (bif Nat.blt t 35 then some ti34 else some ti35)) else (bif Nat.blt t 38 then (bif Nat.blt t 37 then some ti36 else some ti37) else (bif Nat.blt t 39 then some ti38 else some ti39))) else (bif Nat.blt t 44 then (bif Nat.blt t 42 then (bif Nat.blt t 41 then some ti40 else some ti41) else (bif Nat.blt t 43 then some ti42 else some ti43)) else (bif Nat.blt t 46 then (bif Nat.blt t 45 then some ti44 else some ti45) else (bif Nat.blt t 47 then some ti46 else some ti47)))) else (bif Nat.blt t 56 then (bif Nat.blt t 52 then (bif Nat.blt t 50 then (bif Nat.blt t 49 then some ti48 else some ti49) else (bif Nat.blt t 51 then some ti50 else some ti51)) else (bif Nat.blt t 54 then (bif Nat.blt t 53 then some ti52 else some ti53) else (bif Nat.blt t 55 then some ti54 else none))) else (bif Nat.blt t 60 then (bif Nat.blt t 58 then (bif Nat.blt t 57 then some ti56 else some ti57) else (bif Nat.blt t 59 then some ti58 else some ti59)) else (bif Nat.blt t 62 then (bif Nat.blt t 61 then some ti60 else some ti61) else (bif Nat.blt t 63 then some ti62 else some ti63)))))
def tp2 (t : Nat) : Option TI := (bif Nat.blt t 80 then (bif Nat.blt t 72 then (bif Nat.blt t 68 then (bif Nat.blt t 66 then (bif Nat.blt t 65 then some ti64 else some ti65) else (bif Nat.blt t 67 then none else some ti67)) else (bif Nat.blt t 70 then (bif Nat.blt t 69 then some ti68 else some ti69) else (bif Nat.blt t 71 then some ti70 else some ti71))) else (bif Nat.blt t 76 then (bif Nat.blt t 74 then (bif Nat.blt t 73 then some ti72 else some ti73) else (bif Nat.blt t 75 then some ti74 else some ti75)) else (bif Nat.blt t 78 then (bif Nat.blt t 77 then some ti76 else some ti77) else (bif Nat.blt t 79 then none else some ti79)))) else (bif Nat.blt t 88 then (bif Nat.blt t 84 then (bif Nat.blt t 82 then (bif Nat.blt t 81 then some ti80 else some ti81) else (bif Nat.blt t 83 then some ti82 else some ti83)) else (bif Nat.blt t 86 then (bif Nat.blt t 85 then some ti84 else some ti85) else (bif Nat.blt t 87 then some ti86 else some ti87))) else (bif Nat.blt t 92 then (bif Nat.blt t 90 then (bif Nat.blt t 89 then some ti88 else some ti89) else (bif Nat.blt t 91 then some ti90 else none)) else (bif Nat.blt t 94 then (bif Nat.blt t 93 then some ti92 else some ti93) else (bif Nat.blt t 95 then some ti94 else some ti95)))))
def tp3 (t : Nat) : Option TI := (bif Nat.blt t 112 then (bif Nat.blt t 104 then (bif Nat.blt t 100 then (bif Nat.blt t 98 then (bif Nat.blt t 97 then some ti96 else some ti97) else (bif Nat.blt t 99 then some ti98 else some ti99)) else (bif Nat.blt t 102 then (bif Nat.blt t 101 then some ti100 else some ti101) else (bif Nat.blt t 103 then some ti102 else some ti103))) else (bif Nat.blt t 108 then (bif Nat.blt t 106 then (bif Nat.blt t 105 then some ti104 else some ti105) else (bif Nat.blt t 107 then some ti106 else some ti107)) else (bif Nat.blt t 110 then (bif Nat.blt t 109 then some ti108 else some ti109) else (bif Nat.blt t 111 then some ti110 else some ti111)))) else (bif Nat.blt t 120 then (bif Nat.blt t 116 then (bif Nat.blt t 114 then (bif Nat.blt t 113 then some ti112 else some ti113) else (bif Nat.blt t 115 then some ti114 else some ti115)) else (bif Nat.blt t 118 then (bif Nat.blt t 117 then some ti116 else none) else (bif Nat.blt t 119 then some ti118 else some ti119))) else (bif Nat.blt t 124 then (bif Nat.blt t 122 then (bif Nat.blt t 121 then some ti120 else some ti121) else (bif Nat.blt t 123 then some ti122 else some ti123)) else (bif Nat.blt t 126 then (bif Nat.blt t 125 then some ti124 else some ti125) else (bif Nat.blt t 127 then some ti126 else some ti127)))))
def tp4 (t : Nat) : Option TI := (bif Nat.blt t 144 then (bif Nat.blt t 136 then (bif Nat.blt t 132 then (bif Nat.blt t 130 then (bif Nat.blt t 129 then some ti128 else some ti129) else (bif Nat.blt t 131 then some ti130 else some ti131)) else (bif Nat.blt t 134 then (bif Nat.blt t 133 then some ti132 else some ti133) else (bif Nat.blt t 135 then some ti134 else none))) else (bif Nat.blt t 140 then (bif Nat.blt t 138 then (bif Nat.blt t 137 then some ti136 else none) else (bif Nat.blt t 139 then none else some ti139)) else (bif Nat.blt t 142 then (bif Nat.blt t 141 then none else some ti141) else (bif Nat.blt t 143 then some ti142 else some ti143)))) else (bif Nat.blt t 152 then (bif Nat.blt t 148 then (bif Nat.blt t 146 then (bif Nat.blt t 145 then some ti144 else some ti145) else (bif Nat.blt t 147 then some ti146 else some ti147)) else (bif Nat.blt t 150 then (bif Nat.blt t 149 then some ti148 else some ti149) else (bif Nat.blt t 151 then some ti150 else some ti151))) else (bif Nat.blt t 156 then (bif Nat.blt t 154 then (bif Nat.blt t 153 then some ti152 else none) else (bif Nat.blt t 155 then some ti154 else some ti155)) else (bif Nat.blt t 158 then (bif Nat.blt t 157 then some ti156 else some ti157) else (bif Nat.blt t 159 then some ti158 else some ti159)))))
def tp5 (t : Nat) : Option TI := (bif Nat.blt t 176 then (bif Nat.blt t 168 then (bif Nat.blt t 164 then (bif Nat.blt t 162 then (bif Nat.blt t 161 then some ti160 else some ti161) else (bif Nat.blt t 163 then some ti162 else some ti163)) else (bif Nat.blt t 166 then (bif Nat.blt t 165 then some ti164 else some ti165) else (bif Nat.blt t 167 then some ti166 else some ti167))) else (bif Nat.blt t 172 then (bif Nat.blt t 170 then (bif Nat.blt t 169 then some ti168 else some ti169) else (bif Nat.blt t 171 then some ti170 else some ti171)) else (bif Nat.blt t 174 then (bif Nat.blt t 173 then some ti172 else some ti173) else (bif Nat.blt t 175 then some ti174 else some ti175)))) else (bif Nat.blt t 184 then (bif Nat.blt t 180 then (bif Nat.blt t 178 then (bif Nat.blt t 177 then some ti176 else some ti177) else (bif Nat.blt t 179 then some ti178 else some ti179)) else (bif Nat.blt t 182 then (bif Nat.blt t 181 then some ti180 else some ti181) else (bif Nat.blt t 183 then some ti182 else some ti183))) else (bif Nat.blt t 188 then (bif Nat.blt t 186 then (bif Nat.blt t 185 then some ti184 else some ti185) else (bif Nat.blt t 187 then some ti186 else some ti187)) else (bif Nat.blt t 190 then (bif Nat.blt t 189 then some ti188 else some ti189) else none))))
def tp6 (t : Nat) : Option TI := (bif Nat.blt t 208 then (bif Nat.blt t 200 then (bif Nat.blt t 196 then (bif Nat.blt t 194 then (bif Nat.blt t 193 then none else some ti193) else (bif Nat.blt t 195 then some ti194 else some ti195)) else (bif Nat.blt t 198 then (bif Nat.blt t 197 then some ti196 else some ti197) else (bif Nat.blt t 199 then some ti198 else some ti199))) else (bif Nat.blt t 204 then (bif Nat.blt t 202 then (bif Nat.blt t 201 then some ti200 else some ti201) else (bif Nat.blt t 203 then some ti202 else some ti203)) else (bif Nat.blt t 206 then (bif Nat.blt t 205 then some ti204 else some ti205) else (bif Nat.blt t 207 then some ti206 else some ti207)))) else (bif Nat.blt t 216 then (bif Nat.blt t 212 then (bif Nat.blt t 210 then (bif Nat.blt t 209 then some ti208 else some ti209) else (bif Nat.blt t 211 then some ti210 else some ti211)) else (bif Nat.blt t 214 then (bif Nat.blt t 213 then some ti212 else some ti213) else (bif Nat.blt t 215 then some ti214 else some ti215))) else (bif Nat.blt t 220 then (bif Nat.blt t 218 then (bif Nat.blt t 217 then some ti216 else some ti217) else (bif Nat.blt t 219 then some ti218 else some ti219)) else (bif Nat.blt t 222 then (bif Nat.blt t 221 then some ti220 else some ti221) else (bif Nat.blt t 223 then some ti222 else some ti223)))))
def tp7 (t : Nat) : Option TI := (bif Nat.blt t 225 then some ti224 else (bif Nat.blt t 226 then some ti225 else some ti226))
def T : Tab := fun t => bif Nat.blt t 227 then (bif Nat.blt t 128 then (bif Nat.blt t 64 then (bif Nat.blt t 32 then tp0 t else tp1 t) else (bif Nat.blt t 96 then tp2 t else tp3 t)) else (bif Nat.blt t 192 then (bif Nat.blt t 160 then tp4 t else tp5 t) else (bif Nat.blt t 224 then tp6 t else tp7 t))) else none
def okAt (P : Program) (t : Nat) : Bool := match T t with | some i => tiOk P t i | none => true
theorem okp0 : (List.range 32).all (fun k => okAt Try.prog (0 + k)) = true := by kernel_rfl
theorem okp1 : (List.range 32).all (fun k => okAt Try.prog (32 + k)) = true := by kernel_rfl
theorem okp2 : (List.range 32).all (fun k => okAt Try.prog (64 + k)) = true := by kernel_rfl
theorem okp3 : (List.range 32).all (fun k => okAt Try.prog (96 + k)) = true := by kernel_rfl
theorem okp4 : (List.range 32).all (fun k => okAt Try.prog (128 + k)) = true := by kernel_rfl
theorem okp5 : (List.range 32).all (fun k => okAt Try.prog (160 + k)) = true := by kernel_rfl
theorem okp6 : (List.range 32).all (fun k => okAt Try.prog (192 + k)) = true := by kernel_rfl
theorem okp7 : (List.range 3).all (fun k => okAt Try.prog (224 + k)) = true := by kernel_rfl
theorem T_ok : TOK Try.prog T := by
  intro t i h
  have hlt : t < 227 := by
    rcases Nat.lt_or_ge t 227 with h1 | h1
    · exact h1
    · have : Nat.blt t 227 = false := by rw [Bool.eq_false_iff]; intro hb; rw [Nat.blt_eq] at hb; omega
      simp only [T, this, cond_false] at h
      cases h
  have key : okAt Try.prog t = true := by
    have all : ∀ (n : Nat) (f : Nat → Bool), (List.range n).all f = true → ∀ k, k < n → f k = true := fun n f hf k hk => List.all_eq_true.1 hf k (List.mem_range.2 hk)
    have cases : (0 ≤ t ∧ t < 32) ∨ (32 ≤ t ∧ t < 64) ∨ (64 ≤ t ∧ t < 96) ∨ (96 ≤ t ∧ t < 128) ∨ (128 ≤ t ∧ t < 160) ∨ (160 ≤ t ∧ t < 192) ∨ (192 ≤ t ∧ t < 224) ∨ (224 ≤ t ∧ t < 227) := by omega
    rcases cases with ⟨h1, h2⟩ | ⟨h1, h2⟩ | ⟨h1, h2⟩ | ⟨h1, h2⟩ | ⟨h1, h2⟩ | ⟨h1, h2⟩ | ⟨h1, h2⟩ | ⟨h1, h2⟩

    · have := all _ _ okp0 (t - 0) (by omega); rwa [show 0 + (t - 0) = t from by omega] at this
    · have := all _ _ okp1 (t - 32) (by omega); rwa [show 32 + (t - 32) = t from by omega] at this
    · have := all _ _ okp2 (t - 64) (by omega); rwa [show 64 + (t - 64) = t from by omega] at this
    · have := all _ _ okp3 (t - 96) (by omega); rwa [show 96 + (t - 96) = t from by omega] at this
    · have := all _ _ okp4 (t - 128) (by omega); rwa [show 128 + (t - 128) = t from by omega] at this
    · have := all _ _ okp5 (t - 160) (by omega); rwa [show 160 + (t - 160) = t from by omega] at this
    · have := all _ _ okp6 (t - 192) (by omega); rwa [show 192 + (t - 192) = t from by omega] at this
    · have := all _ _ okp7 (t - 224) (by omega); rwa [show 224 + (t - 224) = t from by omega] at this
  simp only [okAt, h] at key
  exact key

theorem mixed : Try.prog.follows .mixedOrders = true := by kernel_rfl
end Go.Proofs.Ytijjagkeaehhbaa.Eng
