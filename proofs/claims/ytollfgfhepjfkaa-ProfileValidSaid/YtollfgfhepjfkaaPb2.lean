/- What the evaluator is told of further functions (printed by a program of this session). -/
import Derived.Test.YtollfgfhepjfkaaEv20
namespace Go.Ev
open Go Go.Proofs
noncomputable def f7c (s18 : Spc) (s8 : Spc) : Cfg := cfg Try.prog [26, 36] [63] [(18, s18), (8, s8)] ⟨44, [0, 1, 2, 3, 4], [], []⟩
noncomputable def f18c (s8 : Spc) (s13 : Spc) : Cfg := cfg Try.prog [26, 36] [63] [(8, s8), (13, s13)] ⟨53, [0, 4, 5, 6, 7, 8, 10, 11, 13, 16, 17, 18, 19, 20, 24, 25, 26, 27, 45], [(5, ([4, 5, 7, 8, 17, 18, 19], [], [4, 5])), (9, ([4, 5, 7, 8, 10, 11, 17, 18, 19, 24, 25, 26], [], [4, 5, 10]))], []⟩
noncomputable def f13c (s21 : Spc) (s29 : Spc) (s30 : Spc) (s31 : Spc) : Cfg := cfg Try.prog [26, 36] [63] [(21, s21), (29, s29), (30, s30), (31, s31)] ⟨78, [3, 4, 5, 6, 7, 15, 17, 18, 26, 34, 46], [], []⟩
noncomputable def f29c (s30 : Spc) : Cfg := cfg Try.prog [26, 36] [63] [(30, s30)] ⟨43, [1, 2, 3, 4, 8, 10, 13, 15, 16, 17, 18, 41], [(3, ([1, 2, 3, 15, 16, 17], [], [4]))], []⟩
noncomputable def f30c (s35 : Spc) : Cfg := cfg Try.prog [26, 36] [63] [(35, s35)] ⟨18, [0, 1, 4], [], []⟩
noncomputable def f31c (s38 : Spc) : Cfg := cfg Try.prog [26, 36] [63] [(38, s38)] ⟨75, [3, 4, 5, 6, 7, 9, 39, 43, 44, 45, 46, 69], [(5, ([3, 7, 43, 44, 45], [], [3, 4, 5]))], []⟩
noncomputable def f38c (s20 : Spc) : Cfg := cfg Try.prog [26, 36] [63] [(20, s20)] ⟨41, [1, 2, 4, 5, 7, 20, 23, 24, 25, 26, 33], [(5, ([5, 23, 24, 25], [], [2]))], []⟩
end Go.Ev
