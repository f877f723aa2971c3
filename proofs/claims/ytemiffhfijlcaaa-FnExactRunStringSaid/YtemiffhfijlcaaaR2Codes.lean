import Derived.Test.YtemiffhfijlcaaaVComp
import Derived.Test.YtemiffhfijlcaaaProg
import Derived.KernelRfl
set_option linter.unusedSimpArgs false
set_option linter.unusedVariables false
set_option linter.unusedSectionVars false
/-! The small code of the functions that the laws reach, and that the compiler yields it. -/
namespace Go.V.Try
open Go Go.V
/-- loop.example/g01180/laws.FnStrings -/
def F3 : AFun := ⟨(.seq (.reg [0, 1, 4, 5, 6, 7, 8, 9, 10, 11, 12, 13, 14, 15, 16, 17, 18, 19, 20, 21, 22, 23, 26, 89, 94, 133]
   [⟨(some 4), .mov, [.c (.b false)], none⟩])
  (.seq (.seq (.reg [0, 1, 4, 5, 6, 7, 8, 9, 10, 11, 12, 13, 14, 15, 16, 17, 18, 19, 20, 21, 22, 23, 26, 89, 94, 133]
   [⟨(some 24), .mov, [.t 0], none⟩,
    ⟨(some 25), .mov, [.t 1], none⟩,
    ⟨(some 26), (.call 6), [.t 24, .t 25], none⟩])
  (.cond (.t 26) (.seq (.reg [0, 1, 4, 5, 6, 7, 8, 9, 10, 11, 12, 13, 14, 15, 16, 17, 18, 19, 20, 21, 22, 23, 89, 94, 133]
   [⟨(some 4), .mov, [.c (.b true)], none⟩])
  .ret)
  .skip))
  (.seq (.reg [1, 4, 5, 6, 7, 8, 9, 10, 11, 12, 13, 14, 15, 16, 17, 18, 19, 20, 21, 22, 23, 89, 94, 133]
   [⟨(some 27), .mov, [.t 0], none⟩,
    ⟨(some 28), (.call 7), [.t 27], none⟩,
    ⟨(some 5), (.alloc [(.sl none 0 0 none), (.sl none 0 0 none), (.sl none 0 0 none), (.sl none 0 0 none), (.f .f32 0), (.f .f32 0), (.f .f32 0), (.f .f32 0), (.i .i64 0)]), [], none⟩,
    ⟨none, (.st 9), [.t 5, .t 28], none⟩])
  (.seq (.reg [1, 4, 5, 6, 7, 8, 9, 10, 11, 12, 13, 14, 15, 16, 17, 18, 19, 20, 21, 22, 23, 89, 94, 133]
   [⟨(some 29), .mov, [.t 1], none⟩,
    ⟨(some 30), (.call 8), [.t 29, .c (.i .i64 0), .c (.i .i64 6)], none⟩,
    ⟨(some 6), .mov, [.t 30], none⟩])
  (.seq (.reg [1, 4, 5, 6, 7, 8, 9, 10, 11, 12, 13, 14, 15, 16, 17, 18, 19, 20, 21, 22, 23, 89, 94, 133]
   [⟨(some 31), .mov, [.t 1], none⟩,
    ⟨(some 32), .mov, [.t 6], none⟩,
    ⟨(some 33), (.bin .add), [.t 32, .c (.i .i64 1)], none⟩,
    ⟨(some 34), (.call 8), [.t 31, .c (.i .i64 1), .t 33], none⟩,
    ⟨(some 7), .mov, [.t 34], none⟩])
  (.seq (.reg [1, 4, 5, 6, 7, 8, 9, 10, 11, 12, 13, 14, 15, 16, 17, 18, 19, 20, 21, 22, 23, 89, 94, 133]
   [⟨(some 36), (.ldn 9), [.t 5], none⟩,
    ⟨(some 37), .mov, [.t 6], none⟩,
    ⟨(some 38), (.call 9), [.t 36, .t 37], none⟩,
    ⟨(some 35), .mov, [.t 38], none⟩,
    ⟨(some 39), (.ext 0), [.t 35], none⟩,
    ⟨(some 40), (.ext 1), [.t 35], none⟩,
    ⟨(some 8), (.alloc [(.sl none 0 0 none), (.sl none 0 0 none), (.sl none 0 0 none), (.sl none 0 0 none), (.f .f32 0), (.f .f32 0), (.f .f32 0), (.f .f32 0), (.i .i64 0)]), [], none⟩,
    ⟨none, (.st 9), [.t 8, .t 39], none⟩,
    ⟨(some 9), .mov, [.t 40], none⟩])
  (.seq (.reg [1, 4, 5, 6, 7, 8, 9, 10, 11, 12, 13, 14, 15, 16, 17, 18, 19, 20, 21, 22, 23, 89, 94, 133]
   [⟨(some 42), (.ldn 9), [.t 5], none⟩,
    ⟨(some 43), .mov, [.t 7], none⟩,
    ⟨(some 44), (.call 9), [.t 42, .t 43], none⟩,
    ⟨(some 41), .mov, [.t 44], none⟩,
    ⟨(some 45), (.ext 0), [.t 41], none⟩,
    ⟨(some 46), (.ext 1), [.t 41], none⟩,
    ⟨(some 10), (.alloc [(.sl none 0 0 none), (.sl none 0 0 none), (.sl none 0 0 none), (.sl none 0 0 none), (.f .f32 0), (.f .f32 0), (.f .f32 0), (.f .f32 0), (.i .i64 0)]), [], none⟩,
    ⟨none, (.st 9), [.t 10, .t 45], none⟩,
    ⟨(some 11), .mov, [.t 46], none⟩])
  (.seq (.reg [1, 4, 5, 6, 8, 9, 11, 12, 13, 14, 15, 16, 17, 18, 19, 20, 21, 22, 23, 89, 94, 133]
   [⟨(some 48), (.ldn 9), [.t 10], none⟩,
    ⟨(some 49), .mov, [.t 6], none⟩,
    ⟨(some 50), .mov, [.t 7], none⟩,
    ⟨(some 51), (.bin .sub), [.t 49, .t 50], none⟩,
    ⟨(some 52), (.call 9), [.t 48, .t 51], none⟩,
    ⟨(some 47), .mov, [.t 52], none⟩,
    ⟨(some 53), (.ext 0), [.t 47], none⟩,
    ⟨(some 54), (.ext 1), [.t 47], none⟩,
    ⟨(some 12), (.alloc [(.sl none 0 0 none), (.sl none 0 0 none), (.sl none 0 0 none), (.sl none 0 0 none), (.f .f32 0), (.f .f32 0), (.f .f32 0), (.f .f32 0), (.i .i64 0)]), [], none⟩,
    ⟨none, (.st 9), [.t 12, .t 53], none⟩,
    ⟨(some 13), .mov, [.t 54], none⟩])
  (.seq (.seq (.reg [1, 4, 5, 6, 8, 14, 15, 16, 17, 18, 19, 20, 21, 22, 23, 89, 94, 133]
   [⟨(some 55), .mov, [.t 9], none⟩,
    ⟨(some 56), .not, [.t 55], none⟩,
    ⟨(some 57), .mov, [.t 56], none⟩,
    ⟨(some 58), .mov, [.t 11], (some (57, false))⟩,
    ⟨(some 59), .not, [.t 58], (some (57, false))⟩,
    ⟨(some 60), .pick, [.t 57, .c (.b true), .t 59], none⟩,
    ⟨(some 61), .mov, [.t 60], none⟩,
    ⟨(some 62), .mov, [.t 13], (some (61, false))⟩,
    ⟨(some 63), .not, [.t 62], (some (61, false))⟩,
    ⟨(some 64), .pick, [.t 61, .c (.b true), .t 63], none⟩,
    ⟨(some 65), .mov, [.t 64], none⟩,
    ⟨(some 66), (.ldn 9), [.t 5], (some (65, false))⟩,
    ⟨(some 67), (.call 10), [.t 66], (some (65, false))⟩,
    ⟨(some 68), .not, [.t 67], (some (65, false))⟩,
    ⟨(some 69), .pick, [.t 65, .c (.b true), .t 68], none⟩,
    ⟨(some 70), .mov, [.t 69], none⟩,
    ⟨(some 71), (.ldn 9), [.t 8], (some (70, false))⟩,
    ⟨(some 72), (.call 10), [.t 71], (some (70, false))⟩,
    ⟨(some 73), .not, [.t 72], (some (70, false))⟩,
    ⟨(some 74), .pick, [.t 70, .c (.b true), .t 73], none⟩,
    ⟨(some 75), .mov, [.t 74], none⟩,
    ⟨(some 76), (.ldn 9), [.t 8], (some (75, false))⟩,
    ⟨(some 77), (.ldn 9), [.t 12], (some (75, false))⟩,
    ⟨(some 78), (.call 11), [.t 76, .t 77], (some (75, false))⟩,
    ⟨(some 79), .not, [.t 78], (some (75, false))⟩,
    ⟨(some 80), .pick, [.t 75, .c (.b true), .t 79], none⟩,
    ⟨(some 81), .mov, [.t 80], none⟩,
    ⟨(some 82), (.fa 0), [.t 8], (some (81, false))⟩,
    ⟨(some 83), .ld1, [.t 82], (some (81, false))⟩,
    ⟨(some 84), .len, [.t 83], (some (81, false))⟩,
    ⟨(some 85), (.fa 0), [.t 5], (some (81, false))⟩,
    ⟨(some 86), .ld1, [.t 85], (some (81, false))⟩,
    ⟨(some 87), .len, [.t 86], (some (81, false))⟩,
    ⟨(some 88), (.bin .neq), [.t 84, .t 87], (some (81, false))⟩,
    ⟨(some 89), .pick, [.t 81, .c (.b true), .t 88], none⟩])
  (.cond (.t 89) (.seq (.reg [1, 4, 5, 6, 8, 14, 15, 16, 17, 18, 19, 20, 21, 22, 23, 94, 133]
   [⟨(some 4), .mov, [.c (.b false)], none⟩])
  .ret)
  .skip))
  (.seq (.seq (.reg [1, 4, 5, 6, 8, 14, 15, 16, 17, 18, 19, 20, 21, 22, 23, 94, 133]
   [⟨(some 14), .mov, [.c (.i .i64 0)], none⟩])
  (.block 0 (.loop [1, 4, 5, 6, 8, 14] (.seq (.seq (.reg [1, 4, 5, 6, 8, 14, 15, 16, 17, 18, 19, 20, 21, 22, 23, 94, 133]
   [⟨(some 90), .mov, [.t 14], none⟩,
    ⟨(some 91), (.fa 0), [.t 5], none⟩,
    ⟨(some 92), .ld1, [.t 91], none⟩,
    ⟨(some 93), .len, [.t 92], none⟩,
    ⟨(some 94), (.bin .lss), [.t 90, .t 93], none⟩])
  (.cond (.t 94) .skip
  (.exit 0)))
  (.seq (.block 1 (.seq (.drw [1, 4, 5, 6, 8, 14, 15, 16, 17, 18, 19, 20, 21, 22, 23, 94, 133] 32 [28, 21, 19, 17, 10, 7, 5, 3, 2, 0, 1, 4, 6, 8, 9, 15, 12, 11, 13, 14, 16, 18, 20, 27, 29, 30]
   [⟨(some 97), (.fa 2), [.t 5], none⟩,
    ⟨(some 98), .ld1, [.t 97], none⟩,
    ⟨(some 99), .mov, [.t 14], none⟩,
    ⟨(some 100), (.ia 1), [.t 98, .t 99], none⟩,
    ⟨(some 101), .ld1, [.t 100], none⟩,
    ⟨(some 102), .mov, [.t 101], none⟩,
    ⟨(some 103), (.fa 0), [.t 8], (some (102, true))⟩,
    ⟨(some 104), .ld1, [.t 103], (some (102, true))⟩,
    ⟨(some 105), .mov, [.t 14], (some (102, true))⟩,
    ⟨(some 106), (.ia 3), [.t 104, .t 105], (some (102, true))⟩,
    ⟨(some 107), (.ldn 3), [.t 106], (some (102, true))⟩,
    ⟨(some 108), (.fa 0), [.t 5], (some (102, true))⟩,
    ⟨(some 109), .ld1, [.t 108], (some (102, true))⟩,
    ⟨(some 110), .mov, [.t 14], (some (102, true))⟩,
    ⟨(some 111), (.ia 3), [.t 109, .t 110], (some (102, true))⟩,
    ⟨(some 112), (.ldn 3), [.t 111], (some (102, true))⟩,
    ⟨(some 113), (.call 12), [.t 107, .t 112], (some (102, true))⟩,
    ⟨(some 114), .not, [.t 113], (some (102, true))⟩,
    ⟨(some 115), .mov, [.t 114], (some (102, true))⟩,
    ⟨(some 116), .mov, [.t 6], (some (115, false))⟩,
    ⟨(some 117), (.bin .gtr), [.t 116, .c (.i .i64 0)], (some (115, false))⟩,
    ⟨(some 118), .mov, [.t 117], (some (115, false))⟩,
    ⟨(some 119), (.fa 1), [.t 8], (some (118, true))⟩,
    ⟨(some 120), .ld1, [.t 119], (some (118, true))⟩,
    ⟨(some 121), .mov, [.t 14], (some (118, true))⟩,
    ⟨(some 122), (.ia 3), [.t 120, .t 121], (some (118, true))⟩,
    ⟨(some 123), (.ldn 3), [.t 122], (some (118, true))⟩,
    ⟨(some 124), (.fa 0), [.t 5], (some (118, true))⟩,
    ⟨(some 125), .ld1, [.t 124], (some (118, true))⟩,
    ⟨(some 126), .mov, [.t 14], (some (118, true))⟩,
    ⟨(some 127), (.ia 3), [.t 125, .t 126], (some (118, true))⟩,
    ⟨(some 128), (.ldn 3), [.t 127], (some (118, true))⟩,
    ⟨(some 129), (.call 12), [.t 123, .t 128], (some (118, true))⟩,
    ⟨(some 130), .not, [.t 129], (some (118, true))⟩,
    ⟨(some 131), .pick, [.t 118, .t 130, .c (.b false)], (some (115, false))⟩,
    ⟨(some 132), .pick, [.t 115, .c (.b true), .t 131], (some (102, true))⟩,
    ⟨(some 133), .pick, [.t 102, .t 132, .c (.b false)], none⟩])
  (.cond (.t 133) (.seq (.reg [1, 4, 5, 6, 8, 14, 15, 16, 17, 18, 19, 20, 21, 22, 23, 94, 133]
   [⟨(some 4), .mov, [.c (.b false)], none⟩])
  .ret)
  .skip)))
  (.reg [1, 4, 5, 6, 8, 14, 15, 16, 17, 18, 19, 20, 21, 22, 23, 94, 133]
   [⟨(some 95), .mov, [.t 14], none⟩,
    ⟨(some 96), (.bin .add), [.t 95, .c (.i .i64 1)], none⟩,
    ⟨(some 14), .mov, [.t 96], none⟩]))))))
  (.seq (.reg [1, 4, 15, 16, 17, 18, 19, 20, 21, 22, 23]
   [⟨(some 134), .mov, [.t 1], none⟩,
    ⟨(some 135), (.call 13), [.t 134], none⟩,
    ⟨(some 15), (.alloc [(.f .f32 0), (.f .f32 0), (.f .f32 0)]), [], none⟩,
    ⟨none, (.st 3), [.t 15, .t 135], none⟩])
  (.seq (.reg [1, 4, 15, 16, 17, 18, 19, 20, 21, 22, 23]
   [⟨(some 136), .mov, [.t 1], none⟩,
    ⟨(some 137), (.call 8), [.t 136, .c (.i .i64 40), .c (.i .i64 6)], none⟩,
    ⟨(some 138), (.bin .add), [.c (.i .i64 2), .t 137], none⟩,
    ⟨(some 16), .mov, [.t 138], none⟩])
  (.seq (.reg [4, 15, 16, 17, 18, 19, 20, 21, 22, 23]
   [⟨(some 139), .mov, [.t 1], none⟩,
    ⟨(some 140), (.call 8), [.t 139, .c (.i .i64 41), .c (.i .i64 16)], none⟩,
    ⟨(some 141), (.bin .add), [.c (.i .i64 1), .t 140], none⟩,
    ⟨(some 142), (.cFlt .f32), [.t 141], none⟩,
    ⟨(some 143), (.bin .quo), [.t 142, .c (.f .f32 1082130432)], none⟩,
    ⟨(some 17), .mov, [.t 143], none⟩])
  (.seq (.reg [4, 16, 18, 19, 20, 21, 22, 23]
   [⟨(some 145), (.ldn 3), [.t 15], none⟩,
    ⟨(some 146), .mov, [.t 16], none⟩,
    ⟨(some 147), .mov, [.t 17], none⟩,
    ⟨(some 148), (.call 14), [.t 145, .t 146, .t 147], none⟩,
    ⟨(some 144), .mov, [.t 148], none⟩,
    ⟨(some 149), (.ext 0), [.t 144], none⟩,
    ⟨(some 150), (.ext 1), [.t 144], none⟩,
    ⟨(some 18), (.alloc [(.sl none 0 0 none), (.sl none 0 0 none), (.sl none 0 0 none), (.sl none 0 0 none), (.f .f32 0), (.f .f32 0), (.f .f32 0), (.f .f32 0), (.i .i64 0)]), [], none⟩,
    ⟨none, (.st 9), [.t 18, .t 149], none⟩,
    ⟨(some 19), .mov, [.t 150], none⟩])
  (.seq (.reg [4, 16, 18, 19, 20, 21, 22, 23]
   [⟨(some 152), (.ldn 9), [.t 18], none⟩,
    ⟨(some 153), (.call 15), [.t 152], none⟩,
    ⟨(some 151), .mov, [.t 153], none⟩,
    ⟨(some 154), (.ext 0), [.t 151], none⟩,
    ⟨(some 155), (.ext 1), [.t 151], none⟩,
    ⟨(some 20), (.alloc [(.sl none 0 0 none), (.sl none 0 0 none), (.sl none 0 0 none), (.sl none 0 0 none), (.f .f32 0), (.f .f32 0), (.f .f32 0), (.f .f32 0), (.i .i64 0)]), [], none⟩,
    ⟨none, (.st 9), [.t 20, .t 154], none⟩,
    ⟨(some 21), .mov, [.t 155], none⟩])
  (.seq (.reg [4, 16, 18, 19, 20, 21, 22, 23]
   [⟨(some 157), (.ldn 9), [.t 18], none⟩,
    ⟨(some 158), (.call 16), [.t 157], none⟩,
    ⟨(some 156), .mov, [.t 158], none⟩,
    ⟨(some 159), (.ext 0), [.t 156], none⟩,
    ⟨(some 160), (.ext 1), [.t 156], none⟩,
    ⟨(some 22), .mov, [.t 159], none⟩,
    ⟨(some 23), .mov, [.t 160], none⟩])
  (.seq (.reg [4]
   [⟨(some 161), .mov, [.t 19], none⟩,
    ⟨(some 162), .mov, [.t 161], none⟩,
    ⟨(some 163), .mov, [.t 21], (some (162, true))⟩,
    ⟨(some 164), .pick, [.t 162, .t 163, .c (.b false)], none⟩,
    ⟨(some 165), .mov, [.t 164], none⟩,
    ⟨(some 166), .mov, [.t 23], (some (165, true))⟩,
    ⟨(some 167), .pick, [.t 165, .t 166, .c (.b false)], none⟩,
    ⟨(some 168), .mov, [.t 167], none⟩,
    ⟨(some 169), (.ldn 9), [.t 20], (some (168, true))⟩,
    ⟨(some 170), (.ldn 9), [.t 18], (some (168, true))⟩,
    ⟨(some 171), (.call 11), [.t 169, .t 170], (some (168, true))⟩,
    ⟨(some 172), .pick, [.t 168, .t 171, .c (.b false)], none⟩,
    ⟨(some 173), .mov, [.t 172], none⟩,
    ⟨(some 174), .mov, [.t 22], (some (173, true))⟩,
    ⟨(some 175), (.bin .eql), [.t 174, .c (.f .f32 0)], (some (173, true))⟩,
    ⟨(some 176), .pick, [.t 173, .t 175, .c (.b false)], none⟩,
    ⟨(some 177), .mov, [.t 176], none⟩,
    ⟨(some 178), (.fa 0), [.t 18], (some (177, true))⟩,
    ⟨(some 179), .ld1, [.t 178], (some (177, true))⟩,
    ⟨(some 180), .len, [.t 179], (some (177, true))⟩,
    ⟨(some 181), .mov, [.t 16], (some (177, true))⟩,
    ⟨(some 182), (.bin .eql), [.t 180, .t 181], (some (177, true))⟩,
    ⟨(some 183), .pick, [.t 177, .t 182, .c (.b false)], none⟩,
    ⟨(some 4), .mov, [.t 183], none⟩])
  .ret))))))))))))))))), [.tmp 4]⟩
theorem C3 : compF Go.Proofs.Try.prog 3 = some F3 := by kernel_rfl
/-- loop.example/g01180/laws.FnExactStepString -/
def F4 : AFun := ⟨(.seq (.reg [1, 2, 3, 4, 5, 6, 7, 8, 9, 10, 11, 12, 13, 18, 40, 45, 61, 69, 72, 87, 92, 95]
   [⟨(some 1), .box, [.t 0], none⟩,
    ⟨(some 2), .mov, [.c (.b false)], none⟩])
  (.seq (.reg [1, 2, 3, 4, 5, 6, 7, 8, 9, 10, 11, 12, 13, 18, 40, 45, 61, 69, 72, 87, 92, 95]
   [⟨(some 3), .mov, [.c (.i .i64 1048576)], none⟩])
  (.seq (.reg [1, 2, 3, 4, 5, 6, 7, 8, 9, 10, 11, 12, 13, 18, 40, 45, 61, 69, 72, 87, 92, 95]
   [⟨(some 14), (.ldn 9), [.t 1], none⟩,
    ⟨(some 15), .mov, [.t 3], none⟩,
    ⟨(some 16), (.call 17), [.t 14, .t 15], none⟩,
    ⟨(some 3), .mov, [.t 16], none⟩])
  (.seq (.seq (.reg [1, 2, 4, 5, 6, 7, 8, 9, 10, 11, 12, 13, 18, 40, 45, 61, 69, 72, 87, 92, 95]
   [⟨(some 17), .mov, [.t 3], none⟩,
    ⟨(some 18), (.bin .lss), [.t 17, .c (.i .i64 0)], none⟩])
  (.cond (.t 18) (.seq (.reg [1, 2, 4, 5, 6, 7, 8, 9, 10, 11, 12, 13, 40, 45, 61, 69, 72, 87, 92, 95]
   [⟨(some 2), .mov, [.c (.b true)], none⟩])
  .ret)
  .skip))
  (.seq (.reg [1, 2, 4, 5, 6, 7, 8, 9, 10, 11, 12, 13, 40, 45, 61, 69, 72, 87, 92, 95]
   [⟨(some 20), (.ldn 9), [.t 1], none⟩,
    ⟨(some 21), (.call 19), [.t 20], none⟩,
    ⟨(some 22), (.call 18), [.t 21], none⟩,
    ⟨(some 19), .mov, [.t 22], none⟩,
    ⟨(some 23), (.ext 0), [.t 19], none⟩,
    ⟨(some 24), (.ext 1), [.t 19], none⟩,
    ⟨(some 4), (.alloc [(.sl none 0 0 none), (.sl none 0 0 none), (.sl none 0 0 none), (.sl none 0 0 none), (.f .f32 0), (.f .f32 0), (.f .f32 0), (.f .f32 0), (.i .i64 0)]), [], none⟩,
    ⟨none, (.st 9), [.t 4, .t 23], none⟩,
    ⟨(some 5), .mov, [.t 24], none⟩])
  (.seq (.reg [1, 2, 4, 5, 6, 7, 8, 9, 10, 11, 12, 13, 40, 45, 61, 69, 72, 87, 92, 95]
   [⟨(some 25), (.ldn 9), [.t 1], none⟩,
    ⟨(some 26), (.call 19), [.t 25], none⟩,
    ⟨(some 6), (.alloc [(.sl none 0 0 none), (.sl none 0 0 none), (.sl none 0 0 none), (.sl none 0 0 none), (.f .f32 0), (.f .f32 0), (.f .f32 0), (.f .f32 0), (.i .i64 0)]), [], none⟩,
    ⟨none, (.st 9), [.t 6, .t 26], none⟩])
  (.seq (.reg [1, 2, 4, 5, 6, 7, 8, 9, 10, 11, 12, 13, 40, 45, 61, 69, 72, 87, 92, 95]
   [⟨(some 28), (.ldn 9), [.t 6], none⟩,
    ⟨(some 29), (.call 15), [.t 28], none⟩,
    ⟨(some 27), .mov, [.t 29], none⟩,
    ⟨(some 30), (.ext 0), [.t 27], none⟩,
    ⟨(some 31), (.ext 1), [.t 27], none⟩,
    ⟨(some 7), (.alloc [(.sl none 0 0 none), (.sl none 0 0 none), (.sl none 0 0 none), (.sl none 0 0 none), (.f .f32 0), (.f .f32 0), (.f .f32 0), (.f .f32 0), (.i .i64 0)]), [], none⟩,
    ⟨none, (.st 9), [.t 7, .t 30], none⟩,
    ⟨(some 8), .mov, [.t 31], none⟩])
  (.seq (.seq (.reg [1, 2, 4, 5, 6, 7, 8, 9, 10, 11, 12, 13, 40, 45, 61, 69, 72, 87, 92, 95]
   [⟨(some 32), (.ldn 9), [.t 7], none⟩,
    ⟨(some 33), (.ldn 9), [.t 4], none⟩,
    ⟨(some 34), (.call 20), [.t 32, .t 33], none⟩,
    ⟨(some 35), .not, [.t 34], none⟩,
    ⟨(some 36), .mov, [.t 35], none⟩,
    ⟨(some 37), .mov, [.t 8], (some (36, false))⟩,
    ⟨(some 38), .mov, [.t 5], (some (36, false))⟩,
    ⟨(some 39), (.eqB true), [.t 37, .t 38], (some (36, false))⟩,
    ⟨(some 40), .pick, [.t 36, .c (.b true), .t 39], none⟩])
  (.cond (.t 40) (.seq (.reg [1, 2, 4, 5, 6, 7, 8, 9, 10, 11, 12, 13, 45, 61, 69, 72, 87, 92, 95]
   [⟨(some 2), .mov, [.c (.b false)], none⟩])
  .ret)
  .skip))
  (.seq (.seq (.drw [1, 2, 4, 5, 6, 7, 8, 9, 10, 11, 12, 13, 45, 61, 69, 72, 87, 92, 95] 3 [1]
   [⟨(some 41), (.ldn 9), [.t 6], none⟩,
    ⟨(some 42), (.ldn 9), [.t 1], none⟩,
    ⟨(some 43), (.call 19), [.t 42], none⟩,
    ⟨(some 44), (.call 20), [.t 41, .t 43], none⟩,
    ⟨(some 45), .not, [.t 44], none⟩])
  (.cond (.t 45) (.seq (.reg [1, 2, 4, 5, 6, 7, 8, 9, 10, 11, 12, 13, 61, 69, 72, 87, 92, 95]
   [⟨(some 2), .mov, [.c (.b false)], none⟩])
  .ret)
  .skip))
  (.seq (.reg [1, 2, 4, 5, 6, 7, 8, 9, 10, 11, 12, 13, 61, 69, 72, 87, 92, 95]
   [⟨(some 9), .mov, [.c (.i .i64 1)], none⟩])
  (.seq (.reg [1, 2, 4, 5, 7, 8, 9, 10, 11, 12, 13, 61, 69, 72, 87, 92, 95]
   [⟨(some 46), (.ldn 9), [.t 6], none⟩,
    ⟨(some 47), .mov, [.t 9], none⟩,
    ⟨(some 48), (.call 21), [.t 46, .t 47], none⟩,
    ⟨(some 9), .mov, [.t 48], none⟩])
  (.seq (.seq (.reg [1, 2, 4, 5, 7, 10, 11, 12, 13, 61, 69, 72, 87, 92, 95]
   [⟨(some 49), .mov, [.t 9], none⟩,
    ⟨(some 50), (.bin .lss), [.t 49, .c (.i .i64 0)], none⟩,
    ⟨(some 51), .mov, [.t 50], none⟩,
    ⟨(some 52), (.ldn 9), [.t 7], (some (51, false))⟩,
    ⟨(some 53), (.ldn 9), [.t 4], (some (51, false))⟩,
    ⟨(some 54), (.call 20), [.t 52, .t 53], (some (51, false))⟩,
    ⟨(some 55), .not, [.t 54], (some (51, false))⟩,
    ⟨(some 56), .pick, [.t 51, .c (.b true), .t 55], none⟩,
    ⟨(some 57), .mov, [.t 56], none⟩,
    ⟨(some 58), .mov, [.t 8], (some (57, false))⟩,
    ⟨(some 59), .mov, [.t 5], (some (57, false))⟩,
    ⟨(some 60), (.eqB true), [.t 58, .t 59], (some (57, false))⟩,
    ⟨(some 61), .pick, [.t 57, .c (.b true), .t 60], none⟩])
  (.cond (.t 61) (.seq (.reg [1, 2, 4, 5, 7, 10, 11, 12, 13, 69, 72, 87, 92, 95]
   [⟨(some 2), .mov, [.c (.b false)], none⟩])
  .ret)
  .skip))
  (.seq (.reg [1, 2, 4, 5, 7, 10, 11, 12, 13, 69, 72, 87, 92, 95]
   [⟨(some 10), .mov, [.c (.i .i64 1)], none⟩])
  (.seq (.reg [1, 2, 4, 5, 7, 10, 11, 12, 13, 69, 72, 87, 92, 95]
   [⟨(some 62), (.ldn 9), [.t 7], none⟩,
    ⟨(some 63), .mov, [.t 10], none⟩,
    ⟨(some 64), (.call 21), [.t 62, .t 63], none⟩,
    ⟨(some 10), .mov, [.t 64], none⟩])
  (.seq (.reg [1, 2, 4, 5, 7, 10, 11, 12, 13, 69, 72, 87, 92, 95]
   [⟨(some 11), .mov, [.c (.i .i64 1)], none⟩])
  (.seq (.reg [1, 2, 4, 5, 7, 10, 11, 12, 13, 69, 72, 87, 92, 95]
   [⟨(some 65), (.ldn 9), [.t 7], none⟩,
    ⟨(some 66), .mov, [.t 11], none⟩,
    ⟨(some 67), (.call 22), [.t 65, .t 66], none⟩,
    ⟨(some 11), .mov, [.t 67], none⟩])
  (.seq (.seq (.reg [1, 2, 4, 5, 7, 10, 11, 12, 13, 69, 72, 87, 92, 95]
   [⟨(some 68), .mov, [.t 11], none⟩,
    ⟨(some 69), (.bin .lss), [.t 68, .c (.i .i64 0)], none⟩])
  (.cond (.t 69) (.seq (.reg [1, 2, 4, 5, 7, 10, 11, 12, 13, 72, 87, 92, 95]
   [⟨(some 2), .mov, [.c (.b false)], none⟩])
  .ret)
  .skip))
  (.seq (.seq (.reg [1, 2, 4, 5, 7, 10, 11, 12, 13, 72, 87, 92, 95]
   [⟨(some 70), .mov, [.t 11], none⟩,
    ⟨(some 71), .mov, [.t 10], none⟩,
    ⟨(some 72), (.bin .neq), [.t 70, .t 71], none⟩])
  (.cond (.t 72) (.seq (.reg [1, 2, 4, 5, 7, 10, 11, 12, 13, 87, 92, 95]
   [⟨(some 2), .mov, [.c (.b false)], none⟩])
  .ret)
  .skip))
  (.seq (.reg [2, 4, 5, 7, 10, 11, 12, 13, 87, 92, 95]
   [⟨(some 74), (.ldn 9), [.t 1], none⟩,
    ⟨(some 75), (.call 19), [.t 74], none⟩,
    ⟨(some 76), (.call 15), [.t 75], none⟩,
    ⟨(some 73), .mov, [.t 76], none⟩,
    ⟨(some 77), (.ext 0), [.t 73], none⟩,
    ⟨(some 78), (.ext 1), [.t 73], none⟩,
    ⟨(some 12), (.alloc [(.sl none 0 0 none), (.sl none 0 0 none), (.sl none 0 0 none), (.sl none 0 0 none), (.f .f32 0), (.f .f32 0), (.f .f32 0), (.f .f32 0), (.i .i64 0)]), [], none⟩,
    ⟨none, (.st 9), [.t 12, .t 77], none⟩,
    ⟨(some 13), .mov, [.t 78], none⟩])
  (.seq (.seq (.reg [2, 7, 10, 11, 87, 92, 95]
   [⟨(some 79), (.ldn 9), [.t 12], none⟩,
    ⟨(some 80), (.ldn 9), [.t 4], none⟩,
    ⟨(some 81), (.call 20), [.t 79, .t 80], none⟩,
    ⟨(some 82), .not, [.t 81], none⟩,
    ⟨(some 83), .mov, [.t 82], none⟩,
    ⟨(some 84), .mov, [.t 13], (some (83, false))⟩,
    ⟨(some 85), .mov, [.t 5], (some (83, false))⟩,
    ⟨(some 86), (.eqB true), [.t 84, .t 85], (some (83, false))⟩,
    ⟨(some 87), .pick, [.t 83, .c (.b true), .t 86], none⟩])
  (.cond (.t 87) (.seq (.reg [2, 7, 10, 11, 92, 95]
   [⟨(some 2), .mov, [.c (.b false)], none⟩])
  .ret)
  .skip))
  (.seq (.reg [2, 7, 10, 11, 92, 95]
   [⟨(some 11), .mov, [.c (.i .i64 1)], none⟩])
  (.seq (.reg [2, 10, 11, 92, 95]
   [⟨(some 88), (.ldn 9), [.t 7], none⟩,
    ⟨(some 89), .mov, [.t 11], none⟩,
    ⟨(some 90), (.call 22), [.t 88, .t 89], none⟩,
    ⟨(some 11), .mov, [.t 90], none⟩])
  (.seq (.seq (.reg [2, 10, 11, 92, 95]
   [⟨(some 91), .mov, [.t 11], none⟩,
    ⟨(some 92), (.bin .lss), [.t 91, .c (.i .i64 0)], none⟩])
  (.cond (.t 92) (.seq (.reg [2, 10, 11, 95]
   [⟨(some 2), .mov, [.c (.b false)], none⟩])
  .ret)
  .skip))
  (.seq (.seq (.reg [2, 95]
   [⟨(some 93), .mov, [.t 11], none⟩,
    ⟨(some 94), .mov, [.t 10], none⟩,
    ⟨(some 95), (.bin .neq), [.t 93, .t 94], none⟩])
  (.cond (.t 95) (.seq (.reg [2]
   [⟨(some 2), .mov, [.c (.b false)], none⟩])
  .ret)
  .skip))
  (.seq (.reg [2]
   [⟨(some 2), .mov, [.c (.b true)], none⟩])
  .ret))))))))))))))))))))))))), [.tmp 2]⟩
theorem C4 : compF Go.Proofs.Try.prog 4 = some F4 := by kernel_rfl
/-- loop.example/g01180/laws.FnExactRunString -/
def F5 : AFun := ⟨(.seq (.reg [1, 2, 4, 5, 6, 7, 8, 9, 10, 11, 12, 13, 14, 15, 20, 44, 49, 65, 73, 76, 92, 97, 100]
   [⟨(some 2), .box, [.t 0], none⟩,
    ⟨(some 4), .mov, [.c (.b false)], none⟩])
  (.seq (.reg [1, 2, 4, 5, 6, 7, 8, 9, 10, 11, 12, 13, 14, 15, 20, 44, 49, 65, 73, 76, 92, 97, 100]
   [⟨(some 5), .mov, [.c (.i .i64 1048576)], none⟩])
  (.seq (.reg [1, 2, 4, 5, 6, 7, 8, 9, 10, 11, 12, 13, 14, 15, 20, 44, 49, 65, 73, 76, 92, 97, 100]
   [⟨(some 16), (.ldn 9), [.t 2], none⟩,
    ⟨(some 17), .mov, [.t 5], none⟩,
    ⟨(some 18), (.call 17), [.t 16, .t 17], none⟩,
    ⟨(some 5), .mov, [.t 18], none⟩])
  (.seq (.seq (.reg [1, 2, 4, 6, 7, 8, 9, 10, 11, 12, 13, 14, 15, 20, 44, 49, 65, 73, 76, 92, 97, 100]
   [⟨(some 19), .mov, [.t 5], none⟩,
    ⟨(some 20), (.bin .lss), [.t 19, .c (.i .i64 0)], none⟩])
  (.cond (.t 20) (.seq (.reg [1, 2, 4, 6, 7, 8, 9, 10, 11, 12, 13, 14, 15, 44, 49, 65, 73, 76, 92, 97, 100]
   [⟨(some 4), .mov, [.c (.b true)], none⟩])
  .ret)
  .skip))
  (.seq (.reg [1, 2, 4, 6, 7, 8, 9, 10, 11, 12, 13, 14, 15, 44, 49, 65, 73, 76, 92, 97, 100]
   [⟨(some 22), (.ldn 9), [.t 2], none⟩,
    ⟨(some 23), (.call 19), [.t 22], none⟩,
    ⟨(some 24), .mov, [.t 1], none⟩,
    ⟨(some 25), (.call 23), [.t 23, .t 24], none⟩,
    ⟨(some 21), .mov, [.t 25], none⟩,
    ⟨(some 26), (.ext 0), [.t 21], none⟩,
    ⟨(some 27), (.ext 1), [.t 21], none⟩,
    ⟨(some 6), (.alloc [(.sl none 0 0 none), (.sl none 0 0 none), (.sl none 0 0 none), (.sl none 0 0 none), (.f .f32 0), (.f .f32 0), (.f .f32 0), (.f .f32 0), (.i .i64 0)]), [], none⟩,
    ⟨none, (.st 9), [.t 6, .t 26], none⟩,
    ⟨(some 7), .mov, [.t 27], none⟩])
  (.seq (.reg [1, 2, 4, 6, 7, 8, 9, 10, 11, 12, 13, 14, 15, 44, 49, 65, 73, 76, 92, 97, 100]
   [⟨(some 28), (.ldn 9), [.t 2], none⟩,
    ⟨(some 29), (.call 19), [.t 28], none⟩,
    ⟨(some 8), (.alloc [(.sl none 0 0 none), (.sl none 0 0 none), (.sl none 0 0 none), (.sl none 0 0 none), (.f .f32 0), (.f .f32 0), (.f .f32 0), (.f .f32 0), (.i .i64 0)]), [], none⟩,
    ⟨none, (.st 9), [.t 8, .t 29], none⟩])
  (.seq (.reg [1, 2, 4, 6, 7, 8, 9, 10, 11, 12, 13, 14, 15, 44, 49, 65, 73, 76, 92, 97, 100]
   [⟨(some 31), (.ldn 9), [.t 8], none⟩,
    ⟨(some 32), .mov, [.t 1], none⟩,
    ⟨(some 33), (.call 9), [.t 31, .t 32], none⟩,
    ⟨(some 30), .mov, [.t 33], none⟩,
    ⟨(some 34), (.ext 0), [.t 30], none⟩,
    ⟨(some 35), (.ext 1), [.t 30], none⟩,
    ⟨(some 9), (.alloc [(.sl none 0 0 none), (.sl none 0 0 none), (.sl none 0 0 none), (.sl none 0 0 none), (.f .f32 0), (.f .f32 0), (.f .f32 0), (.f .f32 0), (.i .i64 0)]), [], none⟩,
    ⟨none, (.st 9), [.t 9, .t 34], none⟩,
    ⟨(some 10), .mov, [.t 35], none⟩])
  (.seq (.seq (.reg [1, 2, 4, 6, 7, 8, 9, 10, 11, 12, 13, 14, 15, 44, 49, 65, 73, 76, 92, 97, 100]
   [⟨(some 36), (.ldn 9), [.t 9], none⟩,
    ⟨(some 37), (.ldn 9), [.t 6], none⟩,
    ⟨(some 38), (.call 20), [.t 36, .t 37], none⟩,
    ⟨(some 39), .not, [.t 38], none⟩,
    ⟨(some 40), .mov, [.t 39], none⟩,
    ⟨(some 41), .mov, [.t 10], (some (40, false))⟩,
    ⟨(some 42), .mov, [.t 7], (some (40, false))⟩,
    ⟨(some 43), (.eqB true), [.t 41, .t 42], (some (40, false))⟩,
    ⟨(some 44), .pick, [.t 40, .c (.b true), .t 43], none⟩])
  (.cond (.t 44) (.seq (.reg [1, 2, 4, 6, 7, 8, 9, 10, 11, 12, 13, 14, 15, 49, 65, 73, 76, 92, 97, 100]
   [⟨(some 4), .mov, [.c (.b false)], none⟩])
  .ret)
  .skip))
  (.seq (.seq (.drw [1, 2, 4, 6, 7, 8, 9, 10, 11, 12, 13, 14, 15, 49, 65, 73, 76, 92, 97, 100] 3 [1]
   [⟨(some 45), (.ldn 9), [.t 8], none⟩,
    ⟨(some 46), (.ldn 9), [.t 2], none⟩,
    ⟨(some 47), (.call 19), [.t 46], none⟩,
    ⟨(some 48), (.call 20), [.t 45, .t 47], none⟩,
    ⟨(some 49), .not, [.t 48], none⟩])
  (.cond (.t 49) (.seq (.reg [1, 2, 4, 6, 7, 8, 9, 10, 11, 12, 13, 14, 15, 65, 73, 76, 92, 97, 100]
   [⟨(some 4), .mov, [.c (.b false)], none⟩])
  .ret)
  .skip))
  (.seq (.reg [1, 2, 4, 6, 7, 8, 9, 10, 11, 12, 13, 14, 15, 65, 73, 76, 92, 97, 100]
   [⟨(some 11), .mov, [.c (.i .i64 1)], none⟩])
  (.seq (.reg [1, 2, 4, 6, 7, 9, 10, 11, 12, 13, 14, 15, 65, 73, 76, 92, 97, 100]
   [⟨(some 50), (.ldn 9), [.t 8], none⟩,
    ⟨(some 51), .mov, [.t 11], none⟩,
    ⟨(some 52), (.call 21), [.t 50, .t 51], none⟩,
    ⟨(some 11), .mov, [.t 52], none⟩])
  (.seq (.seq (.reg [1, 2, 4, 6, 7, 9, 12, 13, 14, 15, 65, 73, 76, 92, 97, 100]
   [⟨(some 53), .mov, [.t 11], none⟩,
    ⟨(some 54), (.bin .lss), [.t 53, .c (.i .i64 0)], none⟩,
    ⟨(some 55), .mov, [.t 54], none⟩,
    ⟨(some 56), (.ldn 9), [.t 9], (some (55, false))⟩,
    ⟨(some 57), (.ldn 9), [.t 6], (some (55, false))⟩,
    ⟨(some 58), (.call 20), [.t 56, .t 57], (some (55, false))⟩,
    ⟨(some 59), .not, [.t 58], (some (55, false))⟩,
    ⟨(some 60), .pick, [.t 55, .c (.b true), .t 59], none⟩,
    ⟨(some 61), .mov, [.t 60], none⟩,
    ⟨(some 62), .mov, [.t 10], (some (61, false))⟩,
    ⟨(some 63), .mov, [.t 7], (some (61, false))⟩,
    ⟨(some 64), (.eqB true), [.t 62, .t 63], (some (61, false))⟩,
    ⟨(some 65), .pick, [.t 61, .c (.b true), .t 64], none⟩])
  (.cond (.t 65) (.seq (.reg [1, 2, 4, 6, 7, 9, 12, 13, 14, 15, 73, 76, 92, 97, 100]
   [⟨(some 4), .mov, [.c (.b false)], none⟩])
  .ret)
  .skip))
  (.seq (.reg [1, 2, 4, 6, 7, 9, 12, 13, 14, 15, 73, 76, 92, 97, 100]
   [⟨(some 12), .mov, [.c (.i .i64 1)], none⟩])
  (.seq (.reg [1, 2, 4, 6, 7, 9, 12, 13, 14, 15, 73, 76, 92, 97, 100]
   [⟨(some 66), (.ldn 9), [.t 9], none⟩,
    ⟨(some 67), .mov, [.t 12], none⟩,
    ⟨(some 68), (.call 21), [.t 66, .t 67], none⟩,
    ⟨(some 12), .mov, [.t 68], none⟩])
  (.seq (.reg [1, 2, 4, 6, 7, 9, 12, 13, 14, 15, 73, 76, 92, 97, 100]
   [⟨(some 13), .mov, [.c (.i .i64 1)], none⟩])
  (.seq (.reg [1, 2, 4, 6, 7, 9, 12, 13, 14, 15, 73, 76, 92, 97, 100]
   [⟨(some 69), (.ldn 9), [.t 9], none⟩,
    ⟨(some 70), .mov, [.t 13], none⟩,
    ⟨(some 71), (.call 22), [.t 69, .t 70], none⟩,
    ⟨(some 13), .mov, [.t 71], none⟩])
  (.seq (.seq (.reg [1, 2, 4, 6, 7, 9, 12, 13, 14, 15, 73, 76, 92, 97, 100]
   [⟨(some 72), .mov, [.t 13], none⟩,
    ⟨(some 73), (.bin .lss), [.t 72, .c (.i .i64 0)], none⟩])
  (.cond (.t 73) (.seq (.reg [1, 2, 4, 6, 7, 9, 12, 13, 14, 15, 76, 92, 97, 100]
   [⟨(some 4), .mov, [.c (.b false)], none⟩])
  .ret)
  .skip))
  (.seq (.seq (.reg [1, 2, 4, 6, 7, 9, 12, 13, 14, 15, 76, 92, 97, 100]
   [⟨(some 74), .mov, [.t 13], none⟩,
    ⟨(some 75), .mov, [.t 12], none⟩,
    ⟨(some 76), (.bin .neq), [.t 74, .t 75], none⟩])
  (.cond (.t 76) (.seq (.reg [1, 2, 4, 6, 7, 9, 12, 13, 14, 15, 92, 97, 100]
   [⟨(some 4), .mov, [.c (.b false)], none⟩])
  .ret)
  .skip))
  (.seq (.reg [4, 6, 7, 9, 12, 13, 14, 15, 92, 97, 100]
   [⟨(some 78), (.ldn 9), [.t 2], none⟩,
    ⟨(some 79), (.call 19), [.t 78], none⟩,
    ⟨(some 80), .mov, [.t 1], none⟩,
    ⟨(some 81), (.call 9), [.t 79, .t 80], none⟩,
    ⟨(some 77), .mov, [.t 81], none⟩,
    ⟨(some 82), (.ext 0), [.t 77], none⟩,
    ⟨(some 83), (.ext 1), [.t 77], none⟩,
    ⟨(some 14), (.alloc [(.sl none 0 0 none), (.sl none 0 0 none), (.sl none 0 0 none), (.sl none 0 0 none), (.f .f32 0), (.f .f32 0), (.f .f32 0), (.f .f32 0), (.i .i64 0)]), [], none⟩,
    ⟨none, (.st 9), [.t 14, .t 82], none⟩,
    ⟨(some 15), .mov, [.t 83], none⟩])
  (.seq (.seq (.reg [4, 9, 12, 13, 92, 97, 100]
   [⟨(some 84), (.ldn 9), [.t 14], none⟩,
    ⟨(some 85), (.ldn 9), [.t 6], none⟩,
    ⟨(some 86), (.call 20), [.t 84, .t 85], none⟩,
    ⟨(some 87), .not, [.t 86], none⟩,
    ⟨(some 88), .mov, [.t 87], none⟩,
    ⟨(some 89), .mov, [.t 15], (some (88, false))⟩,
    ⟨(some 90), .mov, [.t 7], (some (88, false))⟩,
    ⟨(some 91), (.eqB true), [.t 89, .t 90], (some (88, false))⟩,
    ⟨(some 92), .pick, [.t 88, .c (.b true), .t 91], none⟩])
  (.cond (.t 92) (.seq (.reg [4, 9, 12, 13, 97, 100]
   [⟨(some 4), .mov, [.c (.b false)], none⟩])
  .ret)
  .skip))
  (.seq (.reg [4, 9, 12, 13, 97, 100]
   [⟨(some 13), .mov, [.c (.i .i64 1)], none⟩])
  (.seq (.reg [4, 12, 13, 97, 100]
   [⟨(some 93), (.ldn 9), [.t 9], none⟩,
    ⟨(some 94), .mov, [.t 13], none⟩,
    ⟨(some 95), (.call 22), [.t 93, .t 94], none⟩,
    ⟨(some 13), .mov, [.t 95], none⟩])
  (.seq (.seq (.reg [4, 12, 13, 97, 100]
   [⟨(some 96), .mov, [.t 13], none⟩,
    ⟨(some 97), (.bin .lss), [.t 96, .c (.i .i64 0)], none⟩])
  (.cond (.t 97) (.seq (.reg [4, 12, 13, 100]
   [⟨(some 4), .mov, [.c (.b false)], none⟩])
  .ret)
  .skip))
  (.seq (.seq (.reg [4, 100]
   [⟨(some 98), .mov, [.t 13], none⟩,
    ⟨(some 99), .mov, [.t 12], none⟩,
    ⟨(some 100), (.bin .neq), [.t 98, .t 99], none⟩])
  (.cond (.t 100) (.seq (.reg [4]
   [⟨(some 4), .mov, [.c (.b false)], none⟩])
  .ret)
  .skip))
  (.seq (.reg [4]
   [⟨(some 4), .mov, [.c (.b true)], none⟩])
  .ret))))))))))))))))))))))))), [.tmp 4]⟩
theorem C5 : compF Go.Proofs.Try.prog 5 = some F5 := by kernel_rfl
/-- loop.example/g01180/laws.r8Long -/
def F6 : AFun := ⟨(.seq (.reg [0, 1, 4]
   [⟨(some 4), .mov, [.c (.b false)], none⟩])
  (.seq (.reg [4]
   [⟨(some 5), .mov, [.t 0], none⟩,
    ⟨(some 6), .len, [.t 5], none⟩,
    ⟨(some 7), (.bin .gtr), [.t 6, .c (.i .i64 48)], none⟩,
    ⟨(some 8), .mov, [.t 7], none⟩,
    ⟨(some 9), .mov, [.t 1], (some (8, false))⟩,
    ⟨(some 10), .len, [.t 9], (some (8, false))⟩,
    ⟨(some 11), (.bin .gtr), [.t 10, .c (.i .i64 48)], (some (8, false))⟩,
    ⟨(some 12), .pick, [.t 8, .c (.b true), .t 11], none⟩,
    ⟨(some 4), .mov, [.t 12], none⟩])
  .ret)), [.tmp 4]⟩
theorem C6 : compF Go.Proofs.Try.prog 6 = some F6 := by kernel_rfl
/-- loop.example/g01180/spec.R8String -/
def F7 : AFun := ⟨(.seq (.reg [0, 2, 3]
   [⟨(some 2), (.alloc [(.sl none 0 0 none), (.sl none 0 0 none), (.sl none 0 0 none), (.sl none 0 0 none), (.f .f32 0), (.f .f32 0), (.f .f32 0), (.f .f32 0), (.i .i64 0)]), [], none⟩])
  (.seq (.reg [2, 3]
   [⟨(some 4), .mov, [.t 0], none⟩,
    ⟨(some 5), (.call 24), [.t 4], none⟩,
    ⟨(some 3), .mov, [.t 5], none⟩])
  (.seq (.reg [2]
   [⟨(some 6), .mov, [.t 3], none⟩,
    ⟨(some 7), (.call 25), [.t 6], none⟩,
    ⟨none, (.st 9), [.t 2, .t 7], none⟩])
  .ret))), [.cells 2 9]⟩
theorem C7 : compF Go.Proofs.Try.prog 7 = some F7 := by kernel_rfl
/-- loop.example/g01180/laws.r8At -/
def F8 : AFun := ⟨(.seq (.reg [0, 1, 2, 6, 14]
   [⟨(some 6), .mov, [.c (.i .i64 0)], none⟩])
  (.seq (.seq (.reg [0, 1, 2, 6, 14]
   [⟨(some 7), .mov, [.t 2], none⟩,
    ⟨(some 8), (.bin .leq), [.t 7, .c (.i .i64 1)], none⟩,
    ⟨(some 9), .mov, [.t 8], none⟩,
    ⟨(some 10), .mov, [.t 1], (some (9, false))⟩,
    ⟨(some 11), .mov, [.t 0], (some (9, false))⟩,
    ⟨(some 12), .len, [.t 11], (some (9, false))⟩,
    ⟨(some 13), (.bin .geq), [.t 10, .t 12], (some (9, false))⟩,
    ⟨(some 14), .pick, [.t 9, .c (.b true), .t 13], none⟩])
  (.cond (.t 14) (.seq (.reg [0, 1, 2, 6]
   [⟨(some 6), .mov, [.c (.i .i64 0)], none⟩])
  .ret)
  .skip))
  (.seq (.reg [6]
   [⟨(some 15), .mov, [.t 0], none⟩,
    ⟨(some 16), .mov, [.t 1], none⟩,
    ⟨(some 17), (.ia 1), [.t 15, .t 16], none⟩,
    ⟨(some 18), .ld1, [.t 17], none⟩,
    ⟨(some 19), (.cInt .i64), [.t 18], none⟩,
    ⟨(some 20), .mov, [.t 2], none⟩,
    ⟨(some 21), (.bin .rem), [.t 19, .t 20], none⟩,
    ⟨(some 6), .mov, [.t 21], none⟩])
  .ret))), [.tmp 6]⟩
theorem C8 : compF Go.Proofs.Try.prog 8 = some F8 := by kernel_rfl
/-- loop.example/g01180/impl.RunString -/
def F9 : AFun := ⟨(.seq (.reg [1, 2, 4, 5, 13, 17, 18, 19]
   [⟨(some 2), .box, [.t 0], none⟩,
    ⟨(some 4), (.alloc [(.sl none 0 0 none), (.sl none 0 0 none), (.sl none 0 0 none), (.sl none 0 0 none), (.f .f32 0), (.f .f32 0), (.f .f32 0), (.f .f32 0), (.i .i64 0)]), [], none⟩,
    ⟨(some 5), .mov, [.c (.b false)], none⟩])
  (.seq (.seq (.reg [1, 2, 4, 5, 13, 17, 18, 19]
   [⟨(some 6), (.ldn 9), [.t 2], none⟩,
    ⟨(some 7), (.call 10), [.t 6], none⟩,
    ⟨(some 8), .not, [.t 7], none⟩,
    ⟨(some 9), .mov, [.t 8], none⟩,
    ⟨(some 10), .mov, [.t 1], (some (9, false))⟩,
    ⟨(some 11), (.call 26), [.t 10], (some (9, false))⟩,
    ⟨(some 12), .not, [.t 11], (some (9, false))⟩,
    ⟨(some 13), .pick, [.t 9, .c (.b true), .t 12], none⟩])
  (.cond (.t 13) (.seq (.reg [1, 2, 4, 5, 17, 18, 19]
   [⟨(some 14), (.bld [(.sl none 0 0 none), (.sl none 0 0 none), (.sl none 0 0 none), (.sl none 0 0 none), (.f .f32 0), (.f .f32 0), (.f .f32 0), (.f .f32 0), (.i .i64 0)] []), [], none⟩,
    ⟨none, (.st 9), [.t 4, .t 14], none⟩,
    ⟨(some 5), .mov, [.c (.b false)], none⟩])
  .ret)
  .skip))
  (.seq (.reg [1, 2, 4, 5, 17, 18, 19]
   [⟨(some 15), (.ldn 9), [.t 2], none⟩,
    ⟨(some 16), (.call 27), [.t 15], none⟩,
    ⟨none, (.st 9), [.t 2, .t 16], none⟩])
  (.seq (.seq (.reg [2, 4, 5, 17, 18, 19]
   [⟨(some 17), .mov, [.t 1], none⟩,
    ⟨(some 18), .mov, [.c (.i .i64 0)], none⟩])
  (.block 0 (.loop [2, 4, 5, 17, 18] (.seq (.reg [2, 4, 5, 17, 18, 19]
   [⟨(some 19), (.bin .lss), [.t 18, .t 17], none⟩])
  (.seq (.cond (.t 19) .skip
  (.exit 0))
  (.seq (.block 1 (.reg [2, 4, 5, 17, 18, 19]
   [⟨(some 20), (.call 28), [.t 2], none⟩]))
  (.reg [2, 4, 5, 17, 18, 19]
   [⟨(some 21), (.bin .add), [.t 18, .c (.i .i64 1)], none⟩,
    ⟨(some 18), .mov, [.t 21], none⟩])))))))
  (.seq (.reg [4, 5]
   [⟨(some 22), (.ldn 9), [.t 2], none⟩,
    ⟨none, (.st 9), [.t 4, .t 22], none⟩,
    ⟨(some 5), .mov, [.c (.b true)], none⟩])
  .ret))))), [.cells 4 9, .tmp 5]⟩
theorem C9 : compF Go.Proofs.Try.prog 9 = some F9 := by kernel_rfl
/-- loop.example/g01180/impl.ValidString -/
def F10 : AFun := ⟨(.seq (.reg [1, 2, 3]
   [⟨(some 1), .box, [.t 0], none⟩,
    ⟨(some 2), .mov, [.c (.b false)], none⟩])
  (.seq (.reg [1, 2, 3]
   [⟨(some 4), (.fa 0), [.t 1], none⟩,
    ⟨(some 5), .ld1, [.t 4], none⟩,
    ⟨(some 6), .len, [.t 5], none⟩,
    ⟨(some 3), .mov, [.t 6], none⟩])
  (.seq (.reg [2]
   [⟨(some 7), (.fa 0), [.t 1], none⟩,
    ⟨(some 8), .ld1, [.t 7], none⟩,
    ⟨(some 9), (.call 29), [.t 8], none⟩,
    ⟨(some 10), .mov, [.t 9], none⟩,
    ⟨(some 11), (.fa 1), [.t 1], (some (10, true))⟩,
    ⟨(some 12), .ld1, [.t 11], (some (10, true))⟩,
    ⟨(some 13), .len, [.t 12], (some (10, true))⟩,
    ⟨(some 14), .mov, [.t 3], (some (10, true))⟩,
    ⟨(some 15), (.bin .eql), [.t 13, .t 14], (some (10, true))⟩,
    ⟨(some 16), .pick, [.t 10, .t 15, .c (.b false)], none⟩,
    ⟨(some 17), .mov, [.t 16], none⟩,
    ⟨(some 18), (.fa 2), [.t 1], (some (17, true))⟩,
    ⟨(some 19), .ld1, [.t 18], (some (17, true))⟩,
    ⟨(some 20), .len, [.t 19], (some (17, true))⟩,
    ⟨(some 21), .mov, [.t 3], (some (17, true))⟩,
    ⟨(some 22), (.bin .eql), [.t 20, .t 21], (some (17, true))⟩,
    ⟨(some 23), .pick, [.t 17, .t 22, .c (.b false)], none⟩,
    ⟨(some 24), .mov, [.t 23], none⟩,
    ⟨(some 25), (.fa 3), [.t 1], (some (24, true))⟩,
    ⟨(some 26), .ld1, [.t 25], (some (24, true))⟩,
    ⟨(some 27), .len, [.t 26], (some (24, true))⟩,
    ⟨(some 28), .mov, [.t 3], (some (24, true))⟩,
    ⟨(some 29), (.bin .sub), [.t 28, .c (.i .i64 1)], (some (24, true))⟩,
    ⟨(some 30), (.bin .eql), [.t 27, .t 29], (some (24, true))⟩,
    ⟨(some 31), .pick, [.t 24, .t 30, .c (.b false)], none⟩,
    ⟨(some 32), .mov, [.t 31], none⟩,
    ⟨(some 33), (.fa 8), [.t 1], (some (32, true))⟩,
    ⟨(some 34), .ld1, [.t 33], (some (32, true))⟩,
    ⟨(some 35), (.bin .geq), [.t 34, .c (.i .i64 0)], (some (32, true))⟩,
    ⟨(some 36), .pick, [.t 32, .t 35, .c (.b false)], none⟩,
    ⟨(some 37), .mov, [.t 36], none⟩,
    ⟨(some 38), (.fa 8), [.t 1], (some (37, true))⟩,
    ⟨(some 39), .ld1, [.t 38], (some (37, true))⟩,
    ⟨(some 40), (.bin .leq), [.t 39, .c (.i .i64 16)], (some (37, true))⟩,
    ⟨(some 41), .pick, [.t 37, .t 40, .c (.b false)], none⟩,
    ⟨(some 2), .mov, [.t 41], none⟩])
  .ret))), [.tmp 2]⟩
theorem C10 : compF Go.Proofs.Try.prog 10 = some F10 := by kernel_rfl
/-- loop.example/g01180/impl.SameString -/
def F11 : AFun := ⟨(.seq (.reg [2, 3, 4]
   [⟨(some 2), .box, [.t 0], none⟩,
    ⟨(some 3), .box, [.t 1], none⟩,
    ⟨(some 4), .mov, [.c (.b false)], none⟩])
  (.seq (.reg [4]
   [⟨(some 5), (.ldn 9), [.t 2], none⟩,
    ⟨(some 6), (.call 10), [.t 5], none⟩,
    ⟨(some 7), .mov, [.t 6], none⟩,
    ⟨(some 8), (.ldn 9), [.t 3], (some (7, true))⟩,
    ⟨(some 9), (.call 10), [.t 8], (some (7, true))⟩,
    ⟨(some 10), .pick, [.t 7, .t 9, .c (.b false)], none⟩,
    ⟨(some 11), .mov, [.t 10], none⟩,
    ⟨(some 12), (.fa 0), [.t 2], (some (11, true))⟩,
    ⟨(some 13), .ld1, [.t 12], (some (11, true))⟩,
    ⟨(some 14), (.fa 0), [.t 3], (some (11, true))⟩,
    ⟨(some 15), .ld1, [.t 14], (some (11, true))⟩,
    ⟨(some 16), (.call 30), [.t 13, .t 15, .c (.fn 12 [])], (some (11, true))⟩,
    ⟨(some 17), .pick, [.t 11, .t 16, .c (.b false)], none⟩,
    ⟨(some 18), .mov, [.t 17], none⟩,
    ⟨(some 19), (.fa 1), [.t 2], (some (18, true))⟩,
    ⟨(some 20), .ld1, [.t 19], (some (18, true))⟩,
    ⟨(some 21), (.fa 1), [.t 3], (some (18, true))⟩,
    ⟨(some 22), .ld1, [.t 21], (some (18, true))⟩,
    ⟨(some 23), (.call 30), [.t 20, .t 22, .c (.fn 12 [])], (some (18, true))⟩,
    ⟨(some 24), .pick, [.t 18, .t 23, .c (.b false)], none⟩,
    ⟨(some 25), .mov, [.t 24], none⟩,
    ⟨(some 26), (.fa 2), [.t 2], (some (25, true))⟩,
    ⟨(some 27), .ld1, [.t 26], (some (25, true))⟩,
    ⟨(some 28), (.fa 2), [.t 3], (some (25, true))⟩,
    ⟨(some 29), .ld1, [.t 28], (some (25, true))⟩,
    ⟨(some 30), (.call 31), [.t 27, .t 29], (some (25, true))⟩,
    ⟨(some 31), .pick, [.t 25, .t 30, .c (.b false)], none⟩,
    ⟨(some 32), .mov, [.t 31], none⟩,
    ⟨(some 33), (.fa 3), [.t 2], (some (32, true))⟩,
    ⟨(some 34), .ld1, [.t 33], (some (32, true))⟩,
    ⟨(some 35), (.fa 3), [.t 3], (some (32, true))⟩,
    ⟨(some 36), .ld1, [.t 35], (some (32, true))⟩,
    ⟨(some 37), (.call 32), [.t 34, .t 36, .c (.fn 33 [])], (some (32, true))⟩,
    ⟨(some 38), .pick, [.t 32, .t 37, .c (.b false)], none⟩,
    ⟨(some 39), .mov, [.t 38], none⟩,
    ⟨(some 40), (.fa 4), [.t 2], (some (39, true))⟩,
    ⟨(some 41), (.ldn 3), [.t 40], (some (39, true))⟩,
    ⟨(some 42), (.fa 4), [.t 3], (some (39, true))⟩,
    ⟨(some 43), (.ldn 3), [.t 42], (some (39, true))⟩,
    ⟨(some 44), (.call 12), [.t 41, .t 43], (some (39, true))⟩,
    ⟨(some 45), .pick, [.t 39, .t 44, .c (.b false)], none⟩,
    ⟨(some 46), .mov, [.t 45], none⟩,
    ⟨(some 47), (.fa 7), [.t 2], (some (46, true))⟩,
    ⟨(some 48), .ld1, [.t 47], (some (46, true))⟩,
    ⟨(some 49), (.fa 7), [.t 3], (some (46, true))⟩,
    ⟨(some 50), .ld1, [.t 49], (some (46, true))⟩,
    ⟨(some 51), (.call 33), [.t 48, .t 50], (some (46, true))⟩,
    ⟨(some 52), .pick, [.t 46, .t 51, .c (.b false)], none⟩,
    ⟨(some 53), .mov, [.t 52], none⟩,
    ⟨(some 54), (.fa 8), [.t 2], (some (53, true))⟩,
    ⟨(some 55), .ld1, [.t 54], (some (53, true))⟩,
    ⟨(some 56), (.fa 8), [.t 3], (some (53, true))⟩,
    ⟨(some 57), .ld1, [.t 56], (some (53, true))⟩,
    ⟨(some 58), (.bin .eql), [.t 55, .t 57], (some (53, true))⟩,
    ⟨(some 59), .pick, [.t 53, .t 58, .c (.b false)], none⟩,
    ⟨(some 4), .mov, [.t 59], none⟩])
  .ret)), [.tmp 4]⟩
theorem C11 : compF Go.Proofs.Try.prog 11 = some F11 := by kernel_rfl
/-- loop.example/g01180/impl.SameVector -/
def F12 : AFun := ⟨(.seq (.reg [2, 3, 4]
   [⟨(some 2), .box, [.t 0], none⟩,
    ⟨(some 3), .box, [.t 1], none⟩,
    ⟨(some 4), .mov, [.c (.b false)], none⟩])
  (.seq (.reg [4]
   [⟨(some 5), (.fa 0), [.t 2], none⟩,
    ⟨(some 6), .ld1, [.t 5], none⟩,
    ⟨(some 7), (.fa 0), [.t 3], none⟩,
    ⟨(some 8), .ld1, [.t 7], none⟩,
    ⟨(some 9), (.call 33), [.t 6, .t 8], none⟩,
    ⟨(some 10), .mov, [.t 9], none⟩,
    ⟨(some 11), (.fa 1), [.t 2], (some (10, true))⟩,
    ⟨(some 12), .ld1, [.t 11], (some (10, true))⟩,
    ⟨(some 13), (.fa 1), [.t 3], (some (10, true))⟩,
    ⟨(some 14), .ld1, [.t 13], (some (10, true))⟩,
    ⟨(some 15), (.call 33), [.t 12, .t 14], (some (10, true))⟩,
    ⟨(some 16), .pick, [.t 10, .t 15, .c (.b false)], none⟩,
    ⟨(some 17), .mov, [.t 16], none⟩,
    ⟨(some 18), (.fa 2), [.t 2], (some (17, true))⟩,
    ⟨(some 19), .ld1, [.t 18], (some (17, true))⟩,
    ⟨(some 20), (.fa 2), [.t 3], (some (17, true))⟩,
    ⟨(some 21), .ld1, [.t 20], (some (17, true))⟩,
    ⟨(some 22), (.call 33), [.t 19, .t 21], (some (17, true))⟩,
    ⟨(some 23), .pick, [.t 17, .t 22, .c (.b false)], none⟩,
    ⟨(some 4), .mov, [.t 23], none⟩])
  .ret)), [.tmp 4]⟩
theorem C12 : compF Go.Proofs.Try.prog 12 = some F12 := by kernel_rfl
/-- loop.example/g01180/spec.R8Small -/
def F13 : AFun := ⟨(.seq (.reg [0, 2, 3, 4]
   [⟨(some 2), (.alloc [(.f .f32 0), (.f .f32 0), (.f .f32 0)]), [], none⟩])
  (.seq (.reg [2, 3, 4]
   [⟨(some 5), .mov, [.t 0], none⟩,
    ⟨(some 6), (.call 24), [.t 5], none⟩,
    ⟨(some 3), .mov, [.t 6], none⟩])
  (.seq (.reg [2, 3, 4]
   [⟨(some 7), .mov, [.t 3], none⟩,
    ⟨(some 8), (.call 34), [.t 7], none⟩,
    ⟨(some 9), (.bld [(.f .f32 0), (.f .f32 0), (.f .f32 0)] [(0, 1)]), [.t 8], none⟩,
    ⟨(some 4), (.alloc [(.f .f32 0), (.f .f32 0), (.f .f32 0)]), [], none⟩,
    ⟨none, (.st 3), [.t 4, .t 9], none⟩])
  (.seq (.reg [2, 3, 4]
   [⟨(some 10), .mov, [.t 3], none⟩,
    ⟨(some 11), (.call 34), [.t 10], none⟩,
    ⟨(some 12), (.fa 1), [.t 4], none⟩,
    ⟨none, (.st 1), [.t 12, .t 11], none⟩])
  (.seq (.reg [2, 4]
   [⟨(some 13), .mov, [.t 3], none⟩,
    ⟨(some 14), (.call 34), [.t 13], none⟩,
    ⟨(some 15), (.fa 2), [.t 4], none⟩,
    ⟨none, (.st 1), [.t 15, .t 14], none⟩])
  (.seq (.reg [2]
   [⟨(some 16), (.ldn 3), [.t 4], none⟩,
    ⟨none, (.st 3), [.t 2, .t 16], none⟩])
  .ret)))))), [.cells 2 3]⟩
theorem C13 : compF Go.Proofs.Try.prog 13 = some F13 := by kernel_rfl
/-- loop.example/g01180/impl.HangString -/
def F14 : AFun := ⟨(.seq (.reg [1, 2, 3, 6, 7, 8, 14, 27, 28, 29]
   [⟨(some 3), .box, [.t 0], none⟩,
    ⟨(some 6), (.alloc [(.sl none 0 0 none), (.sl none 0 0 none), (.sl none 0 0 none), (.sl none 0 0 none), (.f .f32 0), (.f .f32 0), (.f .f32 0), (.f .f32 0), (.i .i64 0)]), [], none⟩,
    ⟨(some 7), .mov, [.c (.b false)], none⟩])
  (.seq (.seq (.reg [1, 2, 3, 6, 7, 8, 14, 27, 28, 29]
   [⟨(some 9), .mov, [.t 1], none⟩,
    ⟨(some 10), (.bin .lss), [.t 9, .c (.i .i64 2)], none⟩,
    ⟨(some 11), .mov, [.t 10], none⟩,
    ⟨(some 12), .mov, [.t 1], (some (11, false))⟩,
    ⟨(some 13), (.bin .gtr), [.t 12, .c (.i .i64 16)], (some (11, false))⟩,
    ⟨(some 14), .pick, [.t 11, .c (.b true), .t 13], none⟩])
  (.cond (.t 14) (.seq (.reg [1, 2, 3, 6, 7, 8, 27, 28, 29]
   [⟨(some 15), (.bld [(.sl none 0 0 none), (.sl none 0 0 none), (.sl none 0 0 none), (.sl none 0 0 none), (.f .f32 0), (.f .f32 0), (.f .f32 0), (.f .f32 0), (.i .i64 0)] []), [], none⟩,
    ⟨none, (.st 9), [.t 6, .t 15], none⟩,
    ⟨(some 7), .mov, [.c (.b false)], none⟩])
  .ret)
  .skip))
  (.seq (.drw [1, 2, 3, 6, 7, 8, 27, 28, 29] 9 []
   [⟨(some 16), .mov, [.t 1], none⟩,
    ⟨(some 17), (.mk 1 1 [(.b false)]), [.t 16, .t 16], none⟩,
    ⟨(some 18), .mov, [.t 2], none⟩,
    ⟨(some 19), (.bs 1 1 [(.f .f32 0)] [(0, 1)]), [.t 18], none⟩,
    ⟨(some 20), .mov, [.t 1], none⟩,
    ⟨(some 21), (.bin .sub), [.t 20, .c (.i .i64 1)], none⟩,
    ⟨(some 22), (.call 35), [.t 19, .t 21], none⟩,
    ⟨(some 23), (.bld [(.sl none 0 0 none), (.sl none 0 0 none), (.sl none 0 0 none), (.sl none 0 0 none), (.f .f32 0), (.f .f32 0), (.f .f32 0), (.f .f32 0), (.i .i64 0)] [(2, 1), (3, 1), (7, 1), (8, 1)]), [.t 17, .t 22, .c (.f .f32 1065353216), .c (.i .i64 4)], none⟩,
    ⟨(some 8), (.alloc [(.sl none 0 0 none), (.sl none 0 0 none), (.sl none 0 0 none), (.sl none 0 0 none), (.f .f32 0), (.f .f32 0), (.f .f32 0), (.f .f32 0), (.i .i64 0)]), [], none⟩,
    ⟨none, (.st 9), [.t 8, .t 23], none⟩])
  (.seq (.reg [1, 2, 3, 6, 7, 8, 27, 28, 29]
   [⟨(some 24), (.fa 2), [.t 8], none⟩,
    ⟨(some 25), .ld1, [.t 24], none⟩,
    ⟨(some 26), (.ia 1), [.t 25, .c (.i .i64 0)], none⟩,
    ⟨none, (.st 1), [.t 26, .c (.b true)], none⟩])
  (.seq (.seq (.reg [2, 3, 6, 7, 8, 27, 28, 29]
   [⟨(some 27), .mov, [.t 1], none⟩,
    ⟨(some 28), .mov, [.c (.i .i64 0)], none⟩])
  (.block 0 (.loop [2, 3, 6, 7, 8, 27, 28] (.seq (.reg [2, 3, 6, 7, 8, 27, 28, 29]
   [⟨(some 29), (.bin .lss), [.t 28, .t 27], none⟩])
  (.seq (.cond (.t 29) .skip
  (.exit 0))
  (.seq (.block 1 (.seq (.reg [2, 3, 6, 7, 8, 27, 28, 29]
   [⟨(some 30), (.fa 0), [.t 8], none⟩,
    ⟨(some 31), .ld1, [.t 30], none⟩,
    ⟨(some 32), (.ldn 3), [.t 3], none⟩,
    ⟨(some 33), (.bs 3 1 [(.f .f32 0), (.f .f32 0), (.f .f32 0)] [(0, 3)]), [.t 32], none⟩,
    ⟨(some 34), (.app 3 12), [.t 31, .t 33], none⟩,
    ⟨(some 35), (.fa 0), [.t 8], none⟩,
    ⟨none, (.st 1), [.t 35, .t 34], none⟩])
  (.reg [2, 3, 6, 7, 8, 27, 28, 29]
   [⟨(some 36), (.fa 1), [.t 3], none⟩,
    ⟨(some 37), .ld1, [.t 36], none⟩,
    ⟨(some 38), .mov, [.t 2], none⟩,
    ⟨(some 39), (.bin .sub), [.t 37, .t 38], none⟩,
    ⟨(some 40), (.fa 1), [.t 3], none⟩,
    ⟨none, (.st 1), [.t 40, .t 39], none⟩])))
  (.reg [2, 3, 6, 7, 8, 27, 28, 29]
   [⟨(some 41), (.bin .add), [.t 28, .c (.i .i64 1)], none⟩,
    ⟨(some 28), .mov, [.t 41], none⟩])))))))
  (.seq (.reg [6, 7, 8]
   [⟨(some 42), (.fa 0), [.t 8], none⟩,
    ⟨(some 43), .ld1, [.t 42], none⟩,
    ⟨(some 44), (.call 36), [.t 43], none⟩,
    ⟨(some 45), (.fa 1), [.t 8], none⟩,
    ⟨none, (.st 1), [.t 45, .t 44], none⟩])
  (.seq (.reg [6, 7]
   [⟨(some 46), (.ldn 9), [.t 8], none⟩,
    ⟨none, (.st 9), [.t 6, .t 46], none⟩,
    ⟨(some 7), .mov, [.c (.b true)], none⟩])
  .ret))))))), [.cells 6 9, .tmp 7]⟩
theorem C14 : compF Go.Proofs.Try.prog 14 = some F14 := by kernel_rfl
/-- loop.example/g01180/impl.StepString -/
def F15 : AFun := ⟨(.seq (.reg [1, 2, 3]
   [⟨(some 1), .box, [.t 0], none⟩,
    ⟨(some 2), (.alloc [(.sl none 0 0 none), (.sl none 0 0 none), (.sl none 0 0 none), (.sl none 0 0 none), (.f .f32 0), (.f .f32 0), (.f .f32 0), (.f .f32 0), (.i .i64 0)]), [], none⟩,
    ⟨(some 3), .mov, [.c (.b false)], none⟩])
  (.seq (.reg [2, 3]
   [⟨(some 4), (.ldn 9), [.t 1], none⟩,
    ⟨(some 5), (.call 9), [.t 4, .c (.i .i64 1)], none⟩,
    ⟨(some 6), (.ext 0), [.t 5], none⟩,
    ⟨(some 7), (.ext 1), [.t 5], none⟩,
    ⟨none, (.st 9), [.t 2, .t 6], none⟩,
    ⟨(some 3), .mov, [.t 7], none⟩])
  .ret)), [.cells 2 9, .tmp 3]⟩
theorem C15 : compF Go.Proofs.Try.prog 15 = some F15 := by kernel_rfl
/-- loop.example/g01180/impl.StretchOf -/
def F16 : AFun := ⟨(.seq (.reg [1, 2, 3, 4, 5, 6, 9, 12, 13, 14, 15]
   [⟨(some 1), .box, [.t 0], none⟩,
    ⟨(some 2), .mov, [.c (.f .f32 0)], none⟩,
    ⟨(some 3), .mov, [.c (.b false)], none⟩])
  (.seq (.seq (.reg [1, 2, 3, 4, 5, 6, 9, 12, 13, 14, 15]
   [⟨(some 7), (.ldn 9), [.t 1], none⟩,
    ⟨(some 8), (.call 10), [.t 7], none⟩,
    ⟨(some 9), .not, [.t 8], none⟩])
  (.cond (.t 9) (.seq (.reg [1, 2, 3, 4, 5, 6, 12, 13, 14, 15]
   [⟨(some 2), .mov, [.c (.f .f32 0)], none⟩,
    ⟨(some 3), .mov, [.c (.b false)], none⟩])
  .ret)
  .skip))
  (.seq (.reg [1, 2, 3, 4, 5, 6, 12, 13, 14, 15]
   [⟨(some 4), .mov, [.c (.f .f32 0)], none⟩])
  (.seq (.seq (.reg [1, 2, 3, 4, 5, 6, 12, 13, 14, 15]
   [⟨(some 10), (.fa 0), [.t 1], none⟩,
    ⟨(some 11), .ld1, [.t 10], none⟩,
    ⟨(some 12), (.call 37), [.t 11], none⟩,
    ⟨(some 13), .len, [.t 12], none⟩,
    ⟨(some 14), .mov, [.c (.i .i64 0)], none⟩])
  (.block 0 (.loop [1, 2, 3, 4, 12, 13, 14] (.seq (.reg [1, 2, 3, 4, 5, 6, 12, 13, 14, 15]
   [⟨(some 15), (.bin .lss), [.t 14, .t 13], none⟩])
  (.seq (.cond (.t 15) .skip
  (.exit 0))
  (.seq (.block 1 (.seq (.reg [1, 2, 3, 4, 5, 6, 12, 13, 14, 15]
   [⟨(some 16), .mov, [.t 14], none⟩,
    ⟨(some 17), (.ia 1), [.t 12, .t 14], none⟩,
    ⟨(some 18), .ld1, [.t 17], none⟩,
    ⟨(some 5), .mov, [.t 16], none⟩,
    ⟨(some 6), .mov, [.t 18], none⟩])
  (.reg [1, 2, 3, 4, 5, 6, 12, 13, 14, 15]
   [⟨(some 19), .mov, [.t 4], none⟩,
    ⟨(some 20), .mov, [.t 6], none⟩,
    ⟨(some 21), (.fa 3), [.t 1], none⟩,
    ⟨(some 22), .ld1, [.t 21], none⟩,
    ⟨(some 23), .mov, [.t 5], none⟩,
    ⟨(some 24), (.ia 1), [.t 22, .t 23], none⟩,
    ⟨(some 25), .ld1, [.t 24], none⟩,
    ⟨(some 26), (.bin .sub), [.t 20, .t 25], none⟩,
    ⟨(some 27), (.call 39), [.t 26], none⟩,
    ⟨(some 28), (.call 38), [.t 19, .t 27], none⟩,
    ⟨(some 4), .mov, [.t 28], none⟩])))
  (.reg [1, 2, 3, 4, 5, 6, 12, 13, 14, 15]
   [⟨(some 29), (.bin .add), [.t 14, .c (.i .i64 1)], none⟩,
    ⟨(some 14), .mov, [.t 29], none⟩])))))))
  (.seq (.reg [2, 3]
   [⟨(some 30), .mov, [.t 4], none⟩,
    ⟨(some 2), .mov, [.t 30], none⟩,
    ⟨(some 3), .mov, [.c (.b true)], none⟩])
  .ret))))), [.tmp 2, .tmp 3]⟩
theorem C16 : compF Go.Proofs.Try.prog 16 = some F16 := by kernel_rfl
/-- loop.example/g01180/laws.szString -/
def F17 : AFun := ⟨(.seq (.reg [1, 2, 4, 10, 16, 22, 28]
   [⟨(some 2), .box, [.t 0], none⟩,
    ⟨(some 4), .mov, [.c (.i .i64 0)], none⟩])
  (.seq (.reg [1, 2, 4, 10, 16, 22, 28]
   [⟨(some 5), (.fa 0), [.t 2], none⟩,
    ⟨(some 6), .ld1, [.t 5], none⟩,
    ⟨(some 7), .mov, [.t 1], none⟩,
    ⟨(some 8), (.call 40), [.t 6, .t 7], none⟩,
    ⟨(some 1), .mov, [.t 8], none⟩])
  (.seq (.seq (.reg [1, 2, 4, 10, 16, 22, 28]
   [⟨(some 9), .mov, [.t 1], none⟩,
    ⟨(some 10), (.bin .lss), [.t 9, .c (.i .i64 0)], none⟩])
  (.cond (.t 10) (.seq (.reg [1, 2, 4, 16, 22, 28]
   [⟨(some 4), .mov, [.c (.i .i64 (-1))], none⟩])
  .ret)
  .skip))
  (.seq (.reg [1, 2, 4, 16, 22, 28]
   [⟨(some 11), (.fa 1), [.t 2], none⟩,
    ⟨(some 12), .ld1, [.t 11], none⟩,
    ⟨(some 13), .mov, [.t 1], none⟩,
    ⟨(some 14), (.call 40), [.t 12, .t 13], none⟩,
    ⟨(some 1), .mov, [.t 14], none⟩])
  (.seq (.seq (.reg [1, 2, 4, 16, 22, 28]
   [⟨(some 15), .mov, [.t 1], none⟩,
    ⟨(some 16), (.bin .lss), [.t 15, .c (.i .i64 0)], none⟩])
  (.cond (.t 16) (.seq (.reg [1, 2, 4, 22, 28]
   [⟨(some 4), .mov, [.c (.i .i64 (-1))], none⟩])
  .ret)
  .skip))
  (.seq (.reg [1, 2, 4, 22, 28]
   [⟨(some 17), (.fa 2), [.t 2], none⟩,
    ⟨(some 18), .ld1, [.t 17], none⟩,
    ⟨(some 19), .mov, [.t 1], none⟩,
    ⟨(some 20), (.call 41), [.t 18, .t 19], none⟩,
    ⟨(some 1), .mov, [.t 20], none⟩])
  (.seq (.seq (.reg [1, 2, 4, 22, 28]
   [⟨(some 21), .mov, [.t 1], none⟩,
    ⟨(some 22), (.bin .lss), [.t 21, .c (.i .i64 0)], none⟩])
  (.cond (.t 22) (.seq (.reg [1, 2, 4, 28]
   [⟨(some 4), .mov, [.c (.i .i64 (-1))], none⟩])
  .ret)
  .skip))
  (.seq (.reg [1, 4, 28]
   [⟨(some 23), (.fa 3), [.t 2], none⟩,
    ⟨(some 24), .ld1, [.t 23], none⟩,
    ⟨(some 25), .mov, [.t 1], none⟩,
    ⟨(some 26), (.call 42), [.t 24, .t 25], none⟩,
    ⟨(some 1), .mov, [.t 26], none⟩])
  (.seq (.seq (.reg [1, 4, 28]
   [⟨(some 27), .mov, [.t 1], none⟩,
    ⟨(some 28), (.bin .lss), [.t 27, .c (.i .i64 0)], none⟩])
  (.cond (.t 28) (.seq (.reg [1, 4]
   [⟨(some 4), .mov, [.c (.i .i64 (-1))], none⟩])
  .ret)
  .skip))
  (.seq (.reg [4]
   [⟨(some 29), .mov, [.t 1], none⟩,
    ⟨(some 4), .mov, [.t 29], none⟩])
  .ret)))))))))), [.tmp 4]⟩
theorem C17 : compF Go.Proofs.Try.prog 17 = some F17 := by kernel_rfl
/-- loop.example/g01180/spec.StepString -/
def F18 : AFun := ⟨(.seq (.reg [1, 2, 3, 5]
   [⟨(some 1), .box, [.t 0], none⟩,
    ⟨(some 2), (.alloc [(.sl none 0 0 none), (.sl none 0 0 none), (.sl none 0 0 none), (.sl none 0 0 none), (.f .f32 0), (.f .f32 0), (.f .f32 0), (.f .f32 0), (.i .i64 0)]), [], none⟩,
    ⟨(some 3), .mov, [.c (.b false)], none⟩])
  (.seq (.seq (.reg [1, 2, 3, 5]
   [⟨(some 4), (.call 43), [.t 1], none⟩,
    ⟨(some 5), .not, [.t 4], none⟩])
  (.cond (.t 5) (.seq (.reg [1, 2, 3]
   [⟨(some 6), (.bld [(.sl none 0 0 none), (.sl none 0 0 none), (.sl none 0 0 none), (.sl none 0 0 none), (.f .f32 0), (.f .f32 0), (.f .f32 0), (.f .f32 0), (.i .i64 0)] []), [], none⟩,
    ⟨none, (.st 9), [.t 2, .t 6], none⟩,
    ⟨(some 3), .mov, [.c (.b false)], none⟩])
  .ret)
  .skip))
  (.seq (.reg [2, 3]
   [⟨(some 7), (.call 44), [.t 1], none⟩,
    ⟨none, (.st 9), [.t 2, .t 7], none⟩,
    ⟨(some 3), .mov, [.c (.b true)], none⟩])
  .ret))), [.cells 2 9, .tmp 3]⟩
theorem C18 : compF Go.Proofs.Try.prog 18 = some F18 := by kernel_rfl
/-- loop.example/g01180/laws.toString -/
def F19 : AFun := ⟨(.seq (.reg [1, 2, 3]
   [⟨(some 1), .box, [.t 0], none⟩,
    ⟨(some 2), (.alloc [(.sl none 0 0 none), (.sl none 0 0 none), (.sl none 0 0 none), (.sl none 0 0 none), (.f .f32 0), (.f .f32 0), (.f .f32 0), (.f .f32 0), (.i .i64 0)]), [], none⟩])
  (.seq (.reg [1, 2, 3]
   [⟨(some 3), (.alloc [(.sl none 0 0 none), (.sl none 0 0 none), (.sl none 0 0 none), (.sl none 0 0 none), (.f .f32 0), (.f .f32 0), (.f .f32 0), (.f .f32 0), (.i .i64 0)]), [], none⟩])
  (.seq (.reg [1, 2, 3]
   [⟨(some 4), (.fa 0), [.t 1], none⟩,
    ⟨(some 5), .ld1, [.t 4], none⟩,
    ⟨(some 6), (.call 45), [.t 5], none⟩,
    ⟨(some 7), (.fa 0), [.t 3], none⟩,
    ⟨none, (.st 1), [.t 7, .t 6], none⟩])
  (.seq (.reg [1, 2, 3]
   [⟨(some 8), (.fa 1), [.t 1], none⟩,
    ⟨(some 9), .ld1, [.t 8], none⟩,
    ⟨(some 10), (.call 45), [.t 9], none⟩,
    ⟨(some 11), (.fa 1), [.t 3], none⟩,
    ⟨none, (.st 1), [.t 11, .t 10], none⟩])
  (.seq (.reg [1, 2, 3]
   [⟨(some 12), (.fa 2), [.t 1], none⟩,
    ⟨(some 13), .ld1, [.t 12], none⟩,
    ⟨(some 14), (.call 46), [.t 13], none⟩,
    ⟨(some 15), (.fa 2), [.t 3], none⟩,
    ⟨none, (.st 1), [.t 15, .t 14], none⟩])
  (.seq (.reg [1, 2, 3]
   [⟨(some 16), (.fa 3), [.t 1], none⟩,
    ⟨(some 17), .ld1, [.t 16], none⟩,
    ⟨(some 18), (.call 47), [.t 17], none⟩,
    ⟨(some 19), (.fa 3), [.t 3], none⟩,
    ⟨none, (.st 1), [.t 19, .t 18], none⟩])
  (.seq (.reg [1, 2, 3]
   [⟨(some 20), (.fa 4), [.t 1], none⟩,
    ⟨(some 21), (.ldn 3), [.t 20], none⟩,
    ⟨(some 22), (.call 48), [.t 21], none⟩,
    ⟨(some 23), (.fa 4), [.t 3], none⟩,
    ⟨none, (.st 3), [.t 23, .t 22], none⟩])
  (.seq (.reg [1, 2, 3]
   [⟨(some 24), (.fa 7), [.t 1], none⟩,
    ⟨(some 25), .ld1, [.t 24], none⟩,
    ⟨(some 26), (.fa 7), [.t 3], none⟩,
    ⟨none, (.st 1), [.t 26, .t 25], none⟩])
  (.seq (.reg [2, 3]
   [⟨(some 27), (.fa 8), [.t 1], none⟩,
    ⟨(some 28), .ld1, [.t 27], none⟩,
    ⟨(some 29), (.fa 8), [.t 3], none⟩,
    ⟨none, (.st 1), [.t 29, .t 28], none⟩])
  (.seq (.reg [2]
   [⟨(some 30), (.ldn 9), [.t 3], none⟩,
    ⟨none, (.st 9), [.t 2, .t 30], none⟩])
  .ret)))))))))), [.cells 2 9]⟩
theorem C19 : compF Go.Proofs.Try.prog 19 = some F19 := by kernel_rfl
/-- loop.example/g01180/laws.eqString -/
def F20 : AFun := ⟨(.seq (.reg [2, 3, 4, 10, 16, 22, 28, 34, 42, 47]
   [⟨(some 2), .box, [.t 0], none⟩,
    ⟨(some 3), .box, [.t 1], none⟩,
    ⟨(some 4), .mov, [.c (.b false)], none⟩])
  (.seq (.seq (.reg [2, 3, 4, 10, 16, 22, 28, 34, 42, 47]
   [⟨(some 5), (.fa 0), [.t 2], none⟩,
    ⟨(some 6), .ld1, [.t 5], none⟩,
    ⟨(some 7), (.fa 0), [.t 3], none⟩,
    ⟨(some 8), .ld1, [.t 7], none⟩,
    ⟨(some 9), (.call 49), [.t 6, .t 8], none⟩,
    ⟨(some 10), .not, [.t 9], none⟩])
  (.cond (.t 10) (.seq (.reg [2, 3, 4, 16, 22, 28, 34, 42, 47]
   [⟨(some 4), .mov, [.c (.b false)], none⟩])
  .ret)
  .skip))
  (.seq (.seq (.reg [2, 3, 4, 16, 22, 28, 34, 42, 47]
   [⟨(some 11), (.fa 1), [.t 2], none⟩,
    ⟨(some 12), .ld1, [.t 11], none⟩,
    ⟨(some 13), (.fa 1), [.t 3], none⟩,
    ⟨(some 14), .ld1, [.t 13], none⟩,
    ⟨(some 15), (.call 49), [.t 12, .t 14], none⟩,
    ⟨(some 16), .not, [.t 15], none⟩])
  (.cond (.t 16) (.seq (.reg [2, 3, 4, 22, 28, 34, 42, 47]
   [⟨(some 4), .mov, [.c (.b false)], none⟩])
  .ret)
  .skip))
  (.seq (.seq (.reg [2, 3, 4, 22, 28, 34, 42, 47]
   [⟨(some 17), (.fa 2), [.t 2], none⟩,
    ⟨(some 18), .ld1, [.t 17], none⟩,
    ⟨(some 19), (.fa 2), [.t 3], none⟩,
    ⟨(some 20), .ld1, [.t 19], none⟩,
    ⟨(some 21), (.call 50), [.t 18, .t 20], none⟩,
    ⟨(some 22), .not, [.t 21], none⟩])
  (.cond (.t 22) (.seq (.reg [2, 3, 4, 28, 34, 42, 47]
   [⟨(some 4), .mov, [.c (.b false)], none⟩])
  .ret)
  .skip))
  (.seq (.seq (.reg [2, 3, 4, 28, 34, 42, 47]
   [⟨(some 23), (.fa 3), [.t 2], none⟩,
    ⟨(some 24), .ld1, [.t 23], none⟩,
    ⟨(some 25), (.fa 3), [.t 3], none⟩,
    ⟨(some 26), .ld1, [.t 25], none⟩,
    ⟨(some 27), (.call 51), [.t 24, .t 26], none⟩,
    ⟨(some 28), .not, [.t 27], none⟩])
  (.cond (.t 28) (.seq (.reg [2, 3, 4, 34, 42, 47]
   [⟨(some 4), .mov, [.c (.b false)], none⟩])
  .ret)
  .skip))
  (.seq (.seq (.reg [2, 3, 4, 34, 42, 47]
   [⟨(some 29), (.fa 4), [.t 2], none⟩,
    ⟨(some 30), (.ldn 3), [.t 29], none⟩,
    ⟨(some 31), (.fa 4), [.t 3], none⟩,
    ⟨(some 32), (.ldn 3), [.t 31], none⟩,
    ⟨(some 33), (.call 52), [.t 30, .t 32], none⟩,
    ⟨(some 34), .not, [.t 33], none⟩])
  (.cond (.t 34) (.seq (.reg [2, 3, 4, 42, 47]
   [⟨(some 4), .mov, [.c (.b false)], none⟩])
  .ret)
  .skip))
  (.seq (.seq (.reg [2, 3, 4, 42, 47]
   [⟨(some 35), (.fa 7), [.t 2], none⟩,
    ⟨(some 36), .ld1, [.t 35], none⟩,
    ⟨(some 37), (.cFlt .f64), [.t 36], none⟩,
    ⟨(some 38), (.fa 7), [.t 3], none⟩,
    ⟨(some 39), .ld1, [.t 38], none⟩,
    ⟨(some 40), (.cFlt .f64), [.t 39], none⟩,
    ⟨(some 41), (.call 53), [.t 37, .t 40], none⟩,
    ⟨(some 42), .not, [.t 41], none⟩])
  (.cond (.t 42) (.seq (.reg [2, 3, 4, 47]
   [⟨(some 4), .mov, [.c (.b false)], none⟩])
  .ret)
  .skip))
  (.seq (.seq (.reg [4, 47]
   [⟨(some 43), (.fa 8), [.t 2], none⟩,
    ⟨(some 44), .ld1, [.t 43], none⟩,
    ⟨(some 45), (.fa 8), [.t 3], none⟩,
    ⟨(some 46), .ld1, [.t 45], none⟩,
    ⟨(some 47), (.bin .neq), [.t 44, .t 46], none⟩])
  (.cond (.t 47) (.seq (.reg [4]
   [⟨(some 4), .mov, [.c (.b false)], none⟩])
  .ret)
  .skip))
  (.seq (.reg [4]
   [⟨(some 4), .mov, [.c (.b true)], none⟩])
  .ret))))))))), [.tmp 4]⟩
theorem C20 : compF Go.Proofs.Try.prog 20 = some F20 := by kernel_rfl
/-- loop.example/g01180/laws.markString -/
def F21 : AFun := ⟨(.seq (.reg [1, 2, 4]
   [⟨(some 2), .box, [.t 0], none⟩,
    ⟨(some 4), .mov, [.c (.i .i64 0)], none⟩])
  (.seq (.reg [1, 2, 4]
   [⟨(some 5), (.fa 0), [.t 2], none⟩,
    ⟨(some 6), .ld1, [.t 5], none⟩,
    ⟨(some 7), .mov, [.t 1], none⟩,
    ⟨(some 8), (.call 54), [.t 6, .t 7], none⟩,
    ⟨(some 1), .mov, [.t 8], none⟩])
  (.seq (.reg [1, 2, 4]
   [⟨(some 9), (.fa 1), [.t 2], none⟩,
    ⟨(some 10), .ld1, [.t 9], none⟩,
    ⟨(some 11), .mov, [.t 1], none⟩,
    ⟨(some 12), (.call 54), [.t 10, .t 11], none⟩,
    ⟨(some 1), .mov, [.t 12], none⟩])
  (.seq (.reg [1, 2, 4]
   [⟨(some 13), (.fa 2), [.t 2], none⟩,
    ⟨(some 14), .ld1, [.t 13], none⟩,
    ⟨(some 15), .mov, [.t 1], none⟩,
    ⟨(some 16), (.call 55), [.t 14, .t 15], none⟩,
    ⟨(some 1), .mov, [.t 16], none⟩])
  (.seq (.reg [1, 4]
   [⟨(some 17), (.fa 3), [.t 2], none⟩,
    ⟨(some 18), .ld1, [.t 17], none⟩,
    ⟨(some 19), .mov, [.t 1], none⟩,
    ⟨(some 20), (.call 56), [.t 18, .t 19], none⟩,
    ⟨(some 1), .mov, [.t 20], none⟩])
  (.seq (.reg [4]
   [⟨(some 21), .mov, [.t 1], none⟩,
    ⟨(some 4), .mov, [.t 21], none⟩])
  .ret)))))), [.tmp 4]⟩
theorem C21 : compF Go.Proofs.Try.prog 21 = some F21 := by kernel_rfl
/-- loop.example/g01180/laws.heldString -/
def F22 : AFun := ⟨(.seq (.reg [1, 2, 4, 10, 16, 22, 28]
   [⟨(some 2), .box, [.t 0], none⟩,
    ⟨(some 4), .mov, [.c (.i .i64 0)], none⟩])
  (.seq (.reg [1, 2, 4, 10, 16, 22, 28]
   [⟨(some 5), (.fa 0), [.t 2], none⟩,
    ⟨(some 6), .ld1, [.t 5], none⟩,
    ⟨(some 7), .mov, [.t 1], none⟩,
    ⟨(some 8), (.call 57), [.t 6, .t 7], none⟩,
    ⟨(some 1), .mov, [.t 8], none⟩])
  (.seq (.seq (.reg [1, 2, 4, 10, 16, 22, 28]
   [⟨(some 9), .mov, [.t 1], none⟩,
    ⟨(some 10), (.bin .lss), [.t 9, .c (.i .i64 0)], none⟩])
  (.cond (.t 10) (.seq (.reg [1, 2, 4, 16, 22, 28]
   [⟨(some 4), .mov, [.c (.i .i64 (-1))], none⟩])
  .ret)
  .skip))
  (.seq (.reg [1, 2, 4, 16, 22, 28]
   [⟨(some 11), (.fa 1), [.t 2], none⟩,
    ⟨(some 12), .ld1, [.t 11], none⟩,
    ⟨(some 13), .mov, [.t 1], none⟩,
    ⟨(some 14), (.call 57), [.t 12, .t 13], none⟩,
    ⟨(some 1), .mov, [.t 14], none⟩])
  (.seq (.seq (.reg [1, 2, 4, 16, 22, 28]
   [⟨(some 15), .mov, [.t 1], none⟩,
    ⟨(some 16), (.bin .lss), [.t 15, .c (.i .i64 0)], none⟩])
  (.cond (.t 16) (.seq (.reg [1, 2, 4, 22, 28]
   [⟨(some 4), .mov, [.c (.i .i64 (-1))], none⟩])
  .ret)
  .skip))
  (.seq (.reg [1, 2, 4, 22, 28]
   [⟨(some 17), (.fa 2), [.t 2], none⟩,
    ⟨(some 18), .ld1, [.t 17], none⟩,
    ⟨(some 19), .mov, [.t 1], none⟩,
    ⟨(some 20), (.call 58), [.t 18, .t 19], none⟩,
    ⟨(some 1), .mov, [.t 20], none⟩])
  (.seq (.seq (.reg [1, 2, 4, 22, 28]
   [⟨(some 21), .mov, [.t 1], none⟩,
    ⟨(some 22), (.bin .lss), [.t 21, .c (.i .i64 0)], none⟩])
  (.cond (.t 22) (.seq (.reg [1, 2, 4, 28]
   [⟨(some 4), .mov, [.c (.i .i64 (-1))], none⟩])
  .ret)
  .skip))
  (.seq (.reg [1, 4, 28]
   [⟨(some 23), (.fa 3), [.t 2], none⟩,
    ⟨(some 24), .ld1, [.t 23], none⟩,
    ⟨(some 25), .mov, [.t 1], none⟩,
    ⟨(some 26), (.call 59), [.t 24, .t 25], none⟩,
    ⟨(some 1), .mov, [.t 26], none⟩])
  (.seq (.seq (.reg [1, 4, 28]
   [⟨(some 27), .mov, [.t 1], none⟩,
    ⟨(some 28), (.bin .lss), [.t 27, .c (.i .i64 0)], none⟩])
  (.cond (.t 28) (.seq (.reg [1, 4]
   [⟨(some 4), .mov, [.c (.i .i64 (-1))], none⟩])
  .ret)
  .skip))
  (.seq (.reg [4]
   [⟨(some 29), .mov, [.t 1], none⟩,
    ⟨(some 4), .mov, [.t 29], none⟩])
  .ret)))))))))), [.tmp 4]⟩
theorem C22 : compF Go.Proofs.Try.prog 22 = some F22 := by kernel_rfl
/-- loop.example/g01180/spec.RunString -/
def F23 : AFun := ⟨(.seq (.reg [1, 2, 4, 5, 6, 7, 14, 19]
   [⟨(some 2), .box, [.t 0], none⟩,
    ⟨(some 4), (.alloc [(.sl none 0 0 none), (.sl none 0 0 none), (.sl none 0 0 none), (.sl none 0 0 none), (.f .f32 0), (.f .f32 0), (.f .f32 0), (.f .f32 0), (.i .i64 0)]), [], none⟩,
    ⟨(some 5), .mov, [.c (.b false)], none⟩])
  (.seq (.seq (.reg [1, 2, 4, 5, 6, 7, 14, 19]
   [⟨(some 8), (.call 43), [.t 2], none⟩,
    ⟨(some 9), .not, [.t 8], none⟩,
    ⟨(some 10), .mov, [.t 9], none⟩,
    ⟨(some 11), .mov, [.t 1], (some (10, false))⟩,
    ⟨(some 12), (.call 60), [.t 11, .c (.i .i64 0), .c (.i .i64 1000)], (some (10, false))⟩,
    ⟨(some 13), .not, [.t 12], (some (10, false))⟩,
    ⟨(some 14), .pick, [.t 10, .c (.b true), .t 13], none⟩])
  (.cond (.t 14) (.seq (.reg [1, 2, 4, 5, 6, 7, 19]
   [⟨(some 15), (.bld [(.sl none 0 0 none), (.sl none 0 0 none), (.sl none 0 0 none), (.sl none 0 0 none), (.f .f32 0), (.f .f32 0), (.f .f32 0), (.f .f32 0), (.i .i64 0)] []), [], none⟩,
    ⟨none, (.st 9), [.t 4, .t 15], none⟩,
    ⟨(some 5), .mov, [.c (.b false)], none⟩])
  .ret)
  .skip))
  (.seq (.reg [1, 4, 5, 6, 7, 19]
   [⟨(some 16), (.call 61), [.t 2], none⟩,
    ⟨(some 6), (.alloc [(.sl none 0 0 none), (.sl none 0 0 none), (.sl none 0 0 none), (.sl none 0 0 none), (.f .f32 0), (.f .f32 0), (.f .f32 0), (.f .f32 0), (.i .i64 0)]), [], none⟩,
    ⟨none, (.st 9), [.t 6, .t 16], none⟩])
  (.seq (.seq (.reg [1, 4, 5, 6, 7, 19]
   [⟨(some 7), .mov, [.c (.i .i64 0)], none⟩])
  (.block 0 (.loop [1, 4, 5, 6, 7] (.seq (.seq (.reg [1, 4, 5, 6, 7, 19]
   [⟨(some 17), .mov, [.t 7], none⟩,
    ⟨(some 18), .mov, [.t 1], none⟩,
    ⟨(some 19), (.bin .lss), [.t 17, .t 18], none⟩])
  (.cond (.t 19) .skip
  (.exit 0)))
  (.seq (.block 1 (.reg [1, 4, 5, 6, 7, 19]
   [⟨(some 22), (.call 44), [.t 6], none⟩,
    ⟨none, (.st 9), [.t 6, .t 22], none⟩]))
  (.reg [1, 4, 5, 6, 7, 19]
   [⟨(some 20), .mov, [.t 7], none⟩,
    ⟨(some 21), (.bin .add), [.t 20, .c (.i .i64 1)], none⟩,
    ⟨(some 7), .mov, [.t 21], none⟩]))))))
  (.seq (.reg [4, 5]
   [⟨(some 23), (.ldn 9), [.t 6], none⟩,
    ⟨none, (.st 9), [.t 4, .t 23], none⟩,
    ⟨(some 5), .mov, [.c (.b true)], none⟩])
  .ret))))), [.cells 4 9, .tmp 5]⟩
theorem C23 : compF Go.Proofs.Try.prog 23 = some F23 := by kernel_rfl
/-- loop.example/g01180/spec.l00From -/
def F24 : AFun := ⟨(.seq (.reg [0, 2]
   [⟨(some 2), .mov, [.c (.p none)], none⟩])
  (.seq (.reg [2]
   [⟨(some 3), .mov, [.t 0], none⟩,
    ⟨(some 4), (.bld [(.sl none 0 0 none), (.i .i64 0), (.i .u64 0)] [(0, 1)]), [.t 3], none⟩,
    ⟨(some 5), .box, [.t 4], none⟩,
    ⟨(some 2), .mov, [.t 5], none⟩])
  .ret)), [.tmp 2]⟩
theorem C24 : compF Go.Proofs.Try.prog 24 = some F24 := by kernel_rfl
/-- loop.example/g01180/spec.l08DrawOk -/
def F25 : AFun := ⟨(.seq (.reg [0, 2, 3, 4, 5, 6, 15, 27, 44, 53]
   [⟨(some 2), (.alloc [(.sl none 0 0 none), (.sl none 0 0 none), (.sl none 0 0 none), (.sl none 0 0 none), (.f .f32 0), (.f .f32 0), (.f .f32 0), (.f .f32 0), (.i .i64 0)]), [], none⟩])
  (.seq (.reg [0, 2, 3, 4, 5, 6, 15, 27, 44, 53]
   [⟨(some 7), .mov, [.t 0], none⟩,
    ⟨(some 8), (.call 62), [.t 7, .c (.i .i64 4)], none⟩,
    ⟨(some 9), (.bld [(.sl none 0 0 none), (.sl none 0 0 none), (.sl none 0 0 none), (.sl none 0 0 none), (.f .f32 0), (.f .f32 0), (.f .f32 0), (.f .f32 0), (.i .i64 0)] [(8, 1)]), [.t 8], none⟩,
    ⟨(some 3), (.alloc [(.sl none 0 0 none), (.sl none 0 0 none), (.sl none 0 0 none), (.sl none 0 0 none), (.f .f32 0), (.f .f32 0), (.f .f32 0), (.f .f32 0), (.i .i64 0)]), [], none⟩,
    ⟨none, (.st 9), [.t 3, .t 9], none⟩])
  (.seq (.reg [0, 2, 3, 4, 5, 6, 15, 27, 44, 53]
   [⟨(some 10), .mov, [.t 0], none⟩,
    ⟨(some 11), (.call 62), [.t 10, .c (.i .i64 4)], none⟩,
    ⟨(some 12), (.bin .add), [.c (.i .i64 2), .t 11], none⟩,
    ⟨(some 4), .mov, [.t 12], none⟩])
  (.seq (.seq (.reg [0, 2, 3, 4, 5, 6, 15, 27, 44, 53]
   [⟨(some 5), .mov, [.c (.i .i64 0)], none⟩])
  (.block 0 (.loop [0, 2, 3, 4, 5] (.seq (.seq (.reg [0, 2, 3, 4, 5, 6, 15, 27, 44, 53]
   [⟨(some 13), .mov, [.t 5], none⟩,
    ⟨(some 14), .mov, [.t 4], none⟩,
    ⟨(some 15), (.bin .lss), [.t 13, .t 14], none⟩])
  (.cond (.t 15) .skip
  (.exit 0)))
  (.seq (.block 1 (.seq (.reg [0, 2, 3, 4, 5, 6, 15, 27, 44, 53]
   [⟨(some 18), .mov, [.t 0], none⟩,
    ⟨(some 19), (.call 63), [.t 18], none⟩,
    ⟨(some 6), (.alloc [(.f .f32 0), (.f .f32 0), (.f .f32 0)]), [], none⟩,
    ⟨none, (.st 3), [.t 6, .t 19], none⟩])
  (.seq (.reg [0, 2, 3, 4, 5, 6, 15, 27, 44, 53]
   [⟨(some 20), (.fa 0), [.t 3], none⟩,
    ⟨(some 21), .ld1, [.t 20], none⟩,
    ⟨(some 22), (.ldn 3), [.t 6], none⟩,
    ⟨(some 23), (.bs 3 1 [(.f .f32 0), (.f .f32 0), (.f .f32 0)] [(0, 3)]), [.t 22], none⟩,
    ⟨(some 24), (.app 3 12), [.t 21, .t 23], none⟩,
    ⟨(some 25), (.fa 0), [.t 3], none⟩,
    ⟨none, (.st 1), [.t 25, .t 24], none⟩])
  (.seq (.seq (.reg [0, 2, 3, 4, 5, 6, 15, 27, 44, 53]
   [⟨(some 26), .mov, [.t 0], none⟩,
    ⟨(some 27), (.call 64), [.t 26, .c (.i .i64 2)], none⟩])
  (.cond (.t 27) (.reg [0, 2, 3, 4, 5, 6, 15, 27, 44, 53]
   [⟨(some 28), .mov, [.t 0], none⟩,
    ⟨(some 29), (.call 63), [.t 28], none⟩,
    ⟨none, (.st 3), [.t 6, .t 29], none⟩])
  .skip))
  (.seq (.reg [0, 2, 3, 4, 5, 6, 15, 27, 44, 53]
   [⟨(some 30), (.fa 1), [.t 3], none⟩,
    ⟨(some 31), .ld1, [.t 30], none⟩,
    ⟨(some 32), (.ldn 3), [.t 6], none⟩,
    ⟨(some 33), (.bs 3 1 [(.f .f32 0), (.f .f32 0), (.f .f32 0)] [(0, 3)]), [.t 32], none⟩,
    ⟨(some 34), (.app 3 12), [.t 31, .t 33], none⟩,
    ⟨(some 35), (.fa 1), [.t 3], none⟩,
    ⟨none, (.st 1), [.t 35, .t 34], none⟩])
  (.seq (.drw [0, 2, 3, 4, 5, 6, 15, 27, 44, 53] 5 [2, 3]
   [⟨(some 36), (.fa 2), [.t 3], none⟩,
    ⟨(some 37), .ld1, [.t 36], none⟩,
    ⟨(some 38), .mov, [.t 0], none⟩,
    ⟨(some 39), (.call 64), [.t 38, .c (.i .i64 3)], none⟩,
    ⟨(some 40), (.bs 1 1 [(.b false)] [(0, 1)]), [.t 39], none⟩,
    ⟨(some 41), (.app 1 1), [.t 37, .t 40], none⟩,
    ⟨(some 42), (.fa 2), [.t 3], none⟩,
    ⟨none, (.st 1), [.t 42, .t 41], none⟩])
  (.seq (.reg [0, 2, 3, 4, 5, 6, 15, 27, 44, 53]
   [⟨(some 43), .mov, [.t 5], none⟩,
    ⟨(some 44), (.bin .gtr), [.t 43, .c (.i .i64 0)], none⟩])
  (.cond (.t 44) (.drw [0, 2, 3, 4, 5, 6, 15, 27, 44, 53] 5 [2, 3]
   [⟨(some 45), (.fa 3), [.t 3], none⟩,
    ⟨(some 46), .ld1, [.t 45], none⟩,
    ⟨(some 47), .mov, [.t 0], none⟩,
    ⟨(some 48), (.call 65), [.t 47], none⟩,
    ⟨(some 49), (.bs 1 1 [(.f .f32 0)] [(0, 1)]), [.t 48], none⟩,
    ⟨(some 50), (.app 1 4), [.t 46, .t 49], none⟩,
    ⟨(some 51), (.fa 3), [.t 3], none⟩,
    ⟨none, (.st 1), [.t 51, .t 50], none⟩])
  .skip))))))))
  (.reg [0, 2, 3, 4, 5, 6, 15, 27, 44, 53]
   [⟨(some 16), .mov, [.t 5], none⟩,
    ⟨(some 17), (.bin .add), [.t 16, .c (.i .i64 1)], none⟩,
    ⟨(some 5), .mov, [.t 17], none⟩]))))))
  (.seq (.seq (.reg [0, 2, 3, 53]
   [⟨(some 52), .mov, [.t 0], none⟩,
    ⟨(some 53), (.call 64), [.t 52, .c (.i .i64 2)], none⟩])
  (.cond (.t 53) (.reg [0, 2, 3]
   [⟨(some 54), .mov, [.t 0], none⟩,
    ⟨(some 55), (.call 63), [.t 54], none⟩,
    ⟨(some 56), (.fa 4), [.t 3], none⟩,
    ⟨none, (.st 3), [.t 56, .t 55], none⟩])
  .skip))
  (.seq (.reg [2, 3]
   [⟨(some 57), .mov, [.t 0], none⟩,
    ⟨(some 58), (.call 66), [.t 57], none⟩,
    ⟨(some 59), (.fa 7), [.t 3], none⟩,
    ⟨none, (.st 1), [.t 59, .t 58], none⟩])
  (.seq (.reg [2]
   [⟨(some 60), (.ldn 9), [.t 3], none⟩,
    ⟨none, (.st 9), [.t 2, .t 60], none⟩])
  .ret))))))), [.cells 2 9]⟩
theorem C25 : compF Go.Proofs.Try.prog 25 = some F25 := by kernel_rfl
/-- loop.example/g01180/impl.isMoves -/
def F26 : AFun := ⟨(.seq (.reg [0, 2]
   [⟨(some 2), .mov, [.c (.b false)], none⟩])
  (.seq (.reg [2]
   [⟨(some 3), .mov, [.t 0], none⟩,
    ⟨(some 4), (.bin .geq), [.t 3, .c (.i .i64 0)], none⟩,
    ⟨(some 5), .mov, [.t 4], none⟩,
    ⟨(some 6), .mov, [.t 0], (some (5, true))⟩,
    ⟨(some 7), (.bin .leq), [.t 6, .c (.i .i64 1000)], (some (5, true))⟩,
    ⟨(some 8), .pick, [.t 5, .t 7, .c (.b false)], none⟩,
    ⟨(some 2), .mov, [.t 8], none⟩])
  .ret)), [.tmp 2]⟩
theorem C26 : compF Go.Proofs.Try.prog 26 = some F26 := by kernel_rfl
/-- (loop.example/g01180/impl.String).copied -/
def F27 : AFun := ⟨(.seq (.reg [1, 2]
   [⟨(some 1), .box, [.t 0], none⟩,
    ⟨(some 2), (.alloc [(.sl none 0 0 none), (.sl none 0 0 none), (.sl none 0 0 none), (.sl none 0 0 none), (.f .f32 0), (.f .f32 0), (.f .f32 0), (.f .f32 0), (.i .i64 0)]), [], none⟩])
  (.seq (.drw [1, 2] 7 [4, 3, 2, 1, 0]
   [⟨(some 3), (.fa 0), [.t 1], none⟩,
    ⟨(some 4), .ld1, [.t 3], none⟩,
    ⟨(some 5), (.call 36), [.t 4], none⟩,
    ⟨(some 6), (.fa 1), [.t 1], none⟩,
    ⟨(some 7), .ld1, [.t 6], none⟩,
    ⟨(some 8), (.call 36), [.t 7], none⟩,
    ⟨(some 9), (.fa 0), [.t 1], none⟩,
    ⟨none, (.st 1), [.t 9, .t 5], none⟩,
    ⟨(some 10), (.fa 1), [.t 1], none⟩,
    ⟨none, (.st 1), [.t 10, .t 8], none⟩])
  (.seq (.drw [1, 2] 7 [4, 3, 2, 1, 0]
   [⟨(some 11), (.fa 2), [.t 1], none⟩,
    ⟨(some 12), .ld1, [.t 11], none⟩,
    ⟨(some 13), (.call 67), [.t 12], none⟩,
    ⟨(some 14), (.fa 3), [.t 1], none⟩,
    ⟨(some 15), .ld1, [.t 14], none⟩,
    ⟨(some 16), (.call 68), [.t 15], none⟩,
    ⟨(some 17), (.fa 2), [.t 1], none⟩,
    ⟨none, (.st 1), [.t 17, .t 13], none⟩,
    ⟨(some 18), (.fa 3), [.t 1], none⟩,
    ⟨none, (.st 1), [.t 18, .t 16], none⟩])
  (.seq (.reg [2]
   [⟨(some 19), (.ldn 9), [.t 1], none⟩,
    ⟨none, (.st 9), [.t 2, .t 19], none⟩])
  .ret)))), [.cells 2 9]⟩
theorem C27 : compF Go.Proofs.Try.prog 27 = some F27 := by kernel_rfl
/-- (*loop.example/g01180/impl.String).move -/
def F28 : AFun := ⟨(.seq (.seq (.reg [0, 2, 3, 4, 8, 9, 10, 11, 22, 61, 62, 63, 68, 69, 70]
   [⟨(some 5), .mov, [.t 0], none⟩,
    ⟨(some 6), .nilc, [.t 5], none⟩,
    ⟨(some 7), (.fa 0), [.t 6], none⟩,
    ⟨(some 8), .ld1, [.t 7], none⟩,
    ⟨(some 9), .len, [.t 8], none⟩,
    ⟨(some 10), .mov, [.c (.i .i64 0)], none⟩])
  (.block 0 (.loop [0, 8, 9, 10] (.seq (.reg [0, 2, 3, 4, 8, 9, 10, 11, 22, 61, 62, 63, 68, 69, 70]
   [⟨(some 11), (.bin .lss), [.t 10, .t 9], none⟩])
  (.seq (.cond (.t 11) .skip
  (.exit 0))
  (.seq (.block 1 (.seq (.reg [0, 2, 3, 4, 8, 9, 10, 11, 22, 61, 62, 63, 68, 69, 70]
   [⟨(some 12), .mov, [.t 10], none⟩,
    ⟨(some 13), (.ia 3), [.t 8, .t 10], none⟩,
    ⟨(some 14), (.ldn 3), [.t 13], none⟩,
    ⟨(some 3), (.alloc [(.f .f32 0), (.f .f32 0), (.f .f32 0)]), [], none⟩,
    ⟨(some 2), .mov, [.t 12], none⟩,
    ⟨none, (.st 3), [.t 3, .t 14], none⟩])
  (.seq (.seq (.reg [0, 2, 3, 4, 8, 9, 10, 11, 22, 61, 62, 63, 68, 69, 70]
   [⟨(some 15), .mov, [.t 0], none⟩,
    ⟨(some 16), .nilc, [.t 15], none⟩,
    ⟨(some 17), (.fa 2), [.t 16], none⟩,
    ⟨(some 18), .ld1, [.t 17], none⟩,
    ⟨(some 19), .mov, [.t 2], none⟩,
    ⟨(some 20), (.ia 1), [.t 18, .t 19], none⟩,
    ⟨(some 21), .ld1, [.t 20], none⟩,
    ⟨(some 22), .not, [.t 21], none⟩])
  (.cond (.t 22) (.drw [0, 2, 3, 4, 8, 9, 10, 11, 22, 61, 62, 63, 68, 69, 70] 26 [23, 21, 22, 24, 5, 19, 17, 15, 16, 18, 6, 13, 10, 8, 7, 9, 11, 12, 14, 20]
   [⟨(some 23), .mov, [.t 0], none⟩,
    ⟨(some 24), .nilc, [.t 23], none⟩,
    ⟨(some 25), (.fa 0), [.t 24], none⟩,
    ⟨(some 26), .ld1, [.t 25], none⟩,
    ⟨(some 27), .mov, [.t 2], none⟩,
    ⟨(some 28), (.ldn 3), [.t 3], none⟩,
    ⟨(some 29), (.ldn 3), [.t 3], none⟩,
    ⟨(some 30), .mov, [.t 0], none⟩,
    ⟨(some 31), .nilc, [.t 30], none⟩,
    ⟨(some 32), (.fa 1), [.t 31], none⟩,
    ⟨(some 33), .ld1, [.t 32], none⟩,
    ⟨(some 34), .mov, [.t 2], none⟩,
    ⟨(some 35), (.ia 3), [.t 33, .t 34], none⟩,
    ⟨(some 36), (.ldn 3), [.t 35], none⟩,
    ⟨(some 37), (.call 71), [.t 29, .t 36], none⟩,
    ⟨(some 38), .mov, [.t 0], none⟩,
    ⟨(some 39), .nilc, [.t 38], none⟩,
    ⟨(some 40), (.fa 7), [.t 39], none⟩,
    ⟨(some 41), .ld1, [.t 40], none⟩,
    ⟨(some 42), (.call 70), [.t 37, .t 41], none⟩,
    ⟨(some 43), (.call 69), [.t 28, .t 42], none⟩,
    ⟨(some 44), .mov, [.t 0], none⟩,
    ⟨(some 45), .nilc, [.t 44], none⟩,
    ⟨(some 46), (.fa 4), [.t 45], none⟩,
    ⟨(some 47), (.ldn 3), [.t 46], none⟩,
    ⟨(some 48), (.call 69), [.t 43, .t 47], none⟩,
    ⟨(some 49), (.ia 3), [.t 26, .t 27], none⟩,
    ⟨none, (.st 3), [.t 49, .t 48], none⟩])
  .skip))
  (.drw [0, 2, 3, 4, 8, 9, 10, 11, 22, 61, 62, 63, 68, 69, 70] 6 []
   [⟨(some 50), .mov, [.t 0], none⟩,
    ⟨(some 51), .nilc, [.t 50], none⟩,
    ⟨(some 52), (.fa 1), [.t 51], none⟩,
    ⟨(some 53), .ld1, [.t 52], none⟩,
    ⟨(some 54), .mov, [.t 2], none⟩,
    ⟨(some 55), (.ldn 3), [.t 3], none⟩,
    ⟨(some 56), (.ia 3), [.t 53, .t 54], none⟩,
    ⟨none, (.st 3), [.t 56, .t 55], none⟩]))))
  (.reg [0, 2, 3, 4, 8, 9, 10, 11, 22, 61, 62, 63, 68, 69, 70]
   [⟨(some 57), (.bin .add), [.t 10, .c (.i .i64 1)], none⟩,
    ⟨(some 10), .mov, [.t 57], none⟩])))))))
  (.seq (.reg [0, 4, 61, 62, 63, 68, 69, 70]
   [⟨(some 58), .mov, [.t 0], none⟩,
    ⟨(some 59), .nilc, [.t 58], none⟩,
    ⟨(some 60), (.fa 8), [.t 59], none⟩,
    ⟨(some 61), .ld1, [.t 60], none⟩,
    ⟨(some 62), .mov, [.c (.i .i64 0)], none⟩])
  (.block 2 (.loop [0, 61, 62] (.seq (.reg [0, 4, 61, 62, 63, 68, 69, 70]
   [⟨(some 63), (.bin .lss), [.t 62, .t 61], none⟩])
  (.seq (.cond (.t 63) .skip
  (.exit 2))
  (.seq (.block 3 (.seq (.reg [0, 4, 61, 62, 63, 68, 69, 70]
   [⟨(some 64), .mov, [.t 0], none⟩,
    ⟨(some 65), .nilc, [.t 64], none⟩,
    ⟨(some 66), (.fa 3), [.t 65], none⟩,
    ⟨(some 67), .ld1, [.t 66], none⟩,
    ⟨(some 68), .len, [.t 67], none⟩,
    ⟨(some 69), .mov, [.c (.i .i64 0)], none⟩])
  (.block 4 (.loop [0, 61, 62, 63, 68, 69] (.seq (.reg [0, 4, 61, 62, 63, 68, 69, 70]
   [⟨(some 70), (.bin .lss), [.t 69, .t 68], none⟩])
  (.seq (.cond (.t 70) .skip
  (.exit 4))
  (.seq (.block 5 (.seq (.reg [0, 4, 61, 62, 63, 68, 69, 70]
   [⟨(some 71), .mov, [.t 69], none⟩,
    ⟨(some 4), .mov, [.t 71], none⟩])
  (.reg [0, 4, 61, 62, 63, 68, 69, 70]
   [⟨(some 72), .mov, [.t 0], none⟩,
    ⟨(some 73), .mov, [.t 4], none⟩,
    ⟨(some 74), (.call 72), [.t 72, .t 73], none⟩])))
  (.reg [0, 4, 61, 62, 63, 68, 69, 70]
   [⟨(some 75), (.bin .add), [.t 69, .c (.i .i64 1)], none⟩,
    ⟨(some 69), .mov, [.t 75], none⟩]))))))))
  (.reg [0, 4, 61, 62, 63, 68, 69, 70]
   [⟨(some 76), (.bin .add), [.t 62, .c (.i .i64 1)], none⟩,
    ⟨(some 62), .mov, [.t 76], none⟩])))))))), []⟩
theorem C28 : compF Go.Proofs.Try.prog 28 = some F28 := by kernel_rfl
/-- loop.example/g01180/impl.arePoints -/
def F29 : AFun := ⟨(.seq (.reg [0, 2]
   [⟨(some 2), .mov, [.c (.b false)], none⟩])
  (.seq (.reg [2]
   [⟨(some 3), .mov, [.t 0], none⟩,
    ⟨(some 4), .len, [.t 3], none⟩,
    ⟨(some 5), (.bin .geq), [.t 4, .c (.i .i64 2)], none⟩,
    ⟨(some 6), .mov, [.t 5], none⟩,
    ⟨(some 7), .mov, [.t 0], (some (6, true))⟩,
    ⟨(some 8), .len, [.t 7], (some (6, true))⟩,
    ⟨(some 9), (.bin .leq), [.t 8, .c (.i .i64 16)], (some (6, true))⟩,
    ⟨(some 10), .pick, [.t 6, .t 9, .c (.b false)], none⟩,
    ⟨(some 2), .mov, [.t 10], none⟩])
  .ret)), [.tmp 2]⟩
theorem C29 : compF Go.Proofs.Try.prog 29 = some F29 := by kernel_rfl
/-- slices.EqualFunc[[]loop.example/g01180/impl.Vector,[]loop.example/g01180/impl.Vector,loop.example/g01180/impl.Vector,loop.example/g01180/impl.Vector] -/
def F30 : AFun := ⟨(.seq (.reg [0, 1, 2, 6, 7, 8, 9, 14, 15, 16, 17, 18, 30]
   [⟨(some 6), .mov, [.c (.b false)], none⟩])
  (.seq (.seq (.reg [0, 1, 2, 6, 7, 8, 9, 14, 15, 16, 17, 18, 30]
   [⟨(some 10), .mov, [.t 0], none⟩,
    ⟨(some 11), .len, [.t 10], none⟩,
    ⟨(some 12), .mov, [.t 1], none⟩,
    ⟨(some 13), .len, [.t 12], none⟩,
    ⟨(some 14), (.bin .neq), [.t 11, .t 13], none⟩])
  (.cond (.t 14) (.seq (.reg [0, 1, 2, 6, 7, 8, 9, 15, 16, 17, 18, 30]
   [⟨(some 6), .mov, [.c (.b false)], none⟩])
  .ret)
  .skip))
  (.seq (.seq (.reg [1, 2, 6, 7, 8, 9, 15, 16, 17, 18, 30]
   [⟨(some 15), .mov, [.t 0], none⟩,
    ⟨(some 16), .len, [.t 15], none⟩,
    ⟨(some 17), .mov, [.c (.i .i64 0)], none⟩])
  (.block 0 (.loop [1, 2, 6, 15, 16, 17] (.seq (.reg [1, 2, 6, 7, 8, 9, 15, 16, 17, 18, 30]
   [⟨(some 18), (.bin .lss), [.t 17, .t 16], none⟩])
  (.seq (.cond (.t 18) .skip
  (.exit 0))
  (.seq (.block 1 (.seq (.reg [1, 2, 6, 7, 8, 9, 15, 16, 17, 18, 30]
   [⟨(some 19), .mov, [.t 17], none⟩,
    ⟨(some 20), (.ia 3), [.t 15, .t 17], none⟩,
    ⟨(some 21), (.ldn 3), [.t 20], none⟩,
    ⟨(some 8), (.alloc [(.f .f32 0), (.f .f32 0), (.f .f32 0)]), [], none⟩,
    ⟨(some 7), .mov, [.t 19], none⟩,
    ⟨none, (.st 3), [.t 8, .t 21], none⟩])
  (.seq (.reg [1, 2, 6, 7, 8, 9, 15, 16, 17, 18, 30]
   [⟨(some 22), .mov, [.t 1], none⟩,
    ⟨(some 23), .mov, [.t 7], none⟩,
    ⟨(some 24), (.ia 3), [.t 22, .t 23], none⟩,
    ⟨(some 25), (.ldn 3), [.t 24], none⟩,
    ⟨(some 9), (.alloc [(.f .f32 0), (.f .f32 0), (.f .f32 0)]), [], none⟩,
    ⟨none, (.st 3), [.t 9, .t 25], none⟩])
  (.seq (.reg [1, 2, 6, 7, 8, 9, 15, 16, 17, 18, 30]
   [⟨(some 26), .mov, [.t 2], none⟩,
    ⟨(some 27), (.ldn 3), [.t 8], none⟩,
    ⟨(some 28), (.ldn 3), [.t 9], none⟩,
    ⟨(some 29), .callv, [.t 26, .t 27, .t 28], none⟩,
    ⟨(some 30), .not, [.t 29], none⟩])
  (.cond (.t 30) (.seq (.reg [1, 2, 6, 7, 8, 9, 15, 16, 17, 18, 30]
   [⟨(some 6), .mov, [.c (.b false)], none⟩])
  .ret)
  .skip)))))
  (.reg [1, 2, 6, 7, 8, 9, 15, 16, 17, 18, 30]
   [⟨(some 31), (.bin .add), [.t 17, .c (.i .i64 1)], none⟩,
    ⟨(some 17), .mov, [.t 31], none⟩])))))))
  (.seq (.reg [6]
   [⟨(some 6), .mov, [.c (.b true)], none⟩])
  .ret)))), [.tmp 6]⟩
theorem C30 : compF Go.Proofs.Try.prog 30 = some F30 := by kernel_rfl
/-- slices.Equal[[]bool,bool] -/
def F31 : AFun := ⟨(.seq (.reg [0, 1, 4, 5, 10, 12, 13, 14, 24]
   [⟨(some 4), .mov, [.c (.b false)], none⟩])
  (.seq (.seq (.reg [0, 1, 4, 5, 10, 12, 13, 14, 24]
   [⟨(some 6), .mov, [.t 0], none⟩,
    ⟨(some 7), .len, [.t 6], none⟩,
    ⟨(some 8), .mov, [.t 1], none⟩,
    ⟨(some 9), .len, [.t 8], none⟩,
    ⟨(some 10), (.bin .neq), [.t 7, .t 9], none⟩])
  (.cond (.t 10) (.seq (.reg [0, 1, 4, 5, 12, 13, 14, 24]
   [⟨(some 4), .mov, [.c (.b false)], none⟩])
  .ret)
  .skip))
  (.seq (.seq (.reg [0, 1, 4, 5, 12, 13, 14, 24]
   [⟨(some 11), .mov, [.t 0], none⟩,
    ⟨(some 12), .len, [.t 11], none⟩,
    ⟨(some 13), .mov, [.c (.i .i64 0)], none⟩])
  (.block 0 (.loop [0, 1, 4, 12, 13] (.seq (.reg [0, 1, 4, 5, 12, 13, 14, 24]
   [⟨(some 14), (.bin .lss), [.t 13, .t 12], none⟩])
  (.seq (.cond (.t 14) .skip
  (.exit 0))
  (.seq (.block 1 (.seq (.reg [0, 1, 4, 5, 12, 13, 14, 24]
   [⟨(some 15), .mov, [.t 13], none⟩,
    ⟨(some 5), .mov, [.t 15], none⟩])
  (.seq (.drw [0, 1, 4, 5, 12, 13, 14, 24] 8 [4, 5, 6]
   [⟨(some 16), .mov, [.t 0], none⟩,
    ⟨(some 17), .mov, [.t 5], none⟩,
    ⟨(some 18), (.ia 1), [.t 16, .t 17], none⟩,
    ⟨(some 19), .ld1, [.t 18], none⟩,
    ⟨(some 20), .mov, [.t 1], none⟩,
    ⟨(some 21), .mov, [.t 5], none⟩,
    ⟨(some 22), (.ia 1), [.t 20, .t 21], none⟩,
    ⟨(some 23), .ld1, [.t 22], none⟩,
    ⟨(some 24), (.eqB true), [.t 19, .t 23], none⟩])
  (.cond (.t 24) (.seq (.reg [0, 1, 4, 5, 12, 13, 14, 24]
   [⟨(some 4), .mov, [.c (.b false)], none⟩])
  .ret)
  .skip))))
  (.reg [0, 1, 4, 5, 12, 13, 14, 24]
   [⟨(some 25), (.bin .add), [.t 13, .c (.i .i64 1)], none⟩,
    ⟨(some 13), .mov, [.t 25], none⟩])))))))
  (.seq (.reg [4]
   [⟨(some 4), .mov, [.c (.b true)], none⟩])
  .ret)))), [.tmp 4]⟩
theorem C31 : compF Go.Proofs.Try.prog 31 = some F31 := by kernel_rfl
/-- slices.EqualFunc[[]float32,[]float32,float32,float32] -/
def F32 : AFun := ⟨(.seq (.reg [0, 1, 2, 6, 7, 8, 9, 14, 15, 16, 17, 18, 30]
   [⟨(some 6), .mov, [.c (.b false)], none⟩])
  (.seq (.seq (.reg [0, 1, 2, 6, 7, 8, 9, 14, 15, 16, 17, 18, 30]
   [⟨(some 10), .mov, [.t 0], none⟩,
    ⟨(some 11), .len, [.t 10], none⟩,
    ⟨(some 12), .mov, [.t 1], none⟩,
    ⟨(some 13), .len, [.t 12], none⟩,
    ⟨(some 14), (.bin .neq), [.t 11, .t 13], none⟩])
  (.cond (.t 14) (.seq (.reg [0, 1, 2, 6, 7, 8, 9, 15, 16, 17, 18, 30]
   [⟨(some 6), .mov, [.c (.b false)], none⟩])
  .ret)
  .skip))
  (.seq (.seq (.reg [1, 2, 6, 7, 8, 9, 15, 16, 17, 18, 30]
   [⟨(some 15), .mov, [.t 0], none⟩,
    ⟨(some 16), .len, [.t 15], none⟩,
    ⟨(some 17), .mov, [.c (.i .i64 0)], none⟩])
  (.block 0 (.loop [1, 2, 6, 15, 16, 17] (.seq (.reg [1, 2, 6, 7, 8, 9, 15, 16, 17, 18, 30]
   [⟨(some 18), (.bin .lss), [.t 17, .t 16], none⟩])
  (.seq (.cond (.t 18) .skip
  (.exit 0))
  (.seq (.block 1 (.seq (.reg [1, 2, 6, 7, 8, 9, 15, 16, 17, 18, 30]
   [⟨(some 19), .mov, [.t 17], none⟩,
    ⟨(some 20), (.ia 1), [.t 15, .t 17], none⟩,
    ⟨(some 21), .ld1, [.t 20], none⟩,
    ⟨(some 7), .mov, [.t 19], none⟩,
    ⟨(some 8), .mov, [.t 21], none⟩])
  (.seq (.reg [1, 2, 6, 7, 8, 9, 15, 16, 17, 18, 30]
   [⟨(some 22), .mov, [.t 1], none⟩,
    ⟨(some 23), .mov, [.t 7], none⟩,
    ⟨(some 24), (.ia 1), [.t 22, .t 23], none⟩,
    ⟨(some 25), .ld1, [.t 24], none⟩,
    ⟨(some 9), .mov, [.t 25], none⟩])
  (.seq (.reg [1, 2, 6, 7, 8, 9, 15, 16, 17, 18, 30]
   [⟨(some 26), .mov, [.t 2], none⟩,
    ⟨(some 27), .mov, [.t 8], none⟩,
    ⟨(some 28), .mov, [.t 9], none⟩,
    ⟨(some 29), .callv, [.t 26, .t 27, .t 28], none⟩,
    ⟨(some 30), .not, [.t 29], none⟩])
  (.cond (.t 30) (.seq (.reg [1, 2, 6, 7, 8, 9, 15, 16, 17, 18, 30]
   [⟨(some 6), .mov, [.c (.b false)], none⟩])
  .ret)
  .skip)))))
  (.reg [1, 2, 6, 7, 8, 9, 15, 16, 17, 18, 30]
   [⟨(some 31), (.bin .add), [.t 17, .c (.i .i64 1)], none⟩,
    ⟨(some 17), .mov, [.t 31], none⟩])))))))
  (.seq (.reg [6]
   [⟨(some 6), .mov, [.c (.b true)], none⟩])
  .ret)))), [.tmp 6]⟩
theorem C32 : compF Go.Proofs.Try.prog 32 = some F32 := by kernel_rfl
/-- loop.example/g01180/impl.SameNumber -/
def F33 : AFun := ⟨(.seq (.reg [0, 1, 4, 12]
   [⟨(some 4), .mov, [.c (.b false)], none⟩])
  (.seq (.seq (.reg [0, 1, 4, 12]
   [⟨(some 5), .mov, [.t 0], none⟩,
    ⟨(some 6), .mov, [.t 0], none⟩,
    ⟨(some 7), (.bin .neq), [.t 5, .t 6], none⟩,
    ⟨(some 8), .mov, [.t 7], none⟩,
    ⟨(some 9), .mov, [.t 1], (some (8, false))⟩,
    ⟨(some 10), .mov, [.t 1], (some (8, false))⟩,
    ⟨(some 11), (.bin .neq), [.t 9, .t 10], (some (8, false))⟩,
    ⟨(some 12), .pick, [.t 8, .c (.b true), .t 11], none⟩])
  (.cond (.t 12) (.seq (.reg [0, 1, 4]
   [⟨(some 13), .mov, [.t 0], none⟩,
    ⟨(some 14), .mov, [.t 0], none⟩,
    ⟨(some 15), (.bin .neq), [.t 13, .t 14], none⟩,
    ⟨(some 16), .mov, [.t 15], none⟩,
    ⟨(some 17), .mov, [.t 1], (some (16, true))⟩,
    ⟨(some 18), .mov, [.t 1], (some (16, true))⟩,
    ⟨(some 19), (.bin .neq), [.t 17, .t 18], (some (16, true))⟩,
    ⟨(some 20), .pick, [.t 16, .t 19, .c (.b false)], none⟩,
    ⟨(some 4), .mov, [.t 20], none⟩])
  .ret)
  .skip))
  (.seq (.reg [4]
   [⟨(some 21), .mov, [.t 0], none⟩,
    ⟨(some 22), .mov, [.t 1], none⟩,
    ⟨(some 23), (.bin .eql), [.t 21, .t 22], none⟩,
    ⟨(some 24), .mov, [.t 23], none⟩,
    ⟨(some 25), .mov, [.t 0], (some (24, true))⟩,
    ⟨(some 26), (.cFlt .f64), [.t 25], (some (24, true))⟩,
    ⟨(some 27), (.call 73), [.t 26], (some (24, true))⟩,
    ⟨(some 28), .mov, [.t 1], (some (24, true))⟩,
    ⟨(some 29), (.cFlt .f64), [.t 28], (some (24, true))⟩,
    ⟨(some 30), (.call 73), [.t 29], (some (24, true))⟩,
    ⟨(some 31), (.eqB false), [.t 27, .t 30], (some (24, true))⟩,
    ⟨(some 32), .pick, [.t 24, .t 31, .c (.b false)], none⟩,
    ⟨(some 4), .mov, [.t 32], none⟩])
  .ret))), [.tmp 4]⟩
theorem C33 : compF Go.Proofs.Try.prog 33 = some F33 := by kernel_rfl
/-- loop.example/g01180/spec.l01DrawSmall -/
def F34 : AFun := ⟨(.seq (.reg [0, 2]
   [⟨(some 2), .mov, [.c (.f .f32 0)], none⟩])
  (.seq (.reg [2]
   [⟨(some 3), .mov, [.t 0], none⟩,
    ⟨(some 4), (.call 62), [.t 3, .c (.i .i64 33)], none⟩,
    ⟨(some 5), (.bin .sub), [.t 4, .c (.i .i64 16)], none⟩,
    ⟨(some 6), (.cFlt .f32), [.t 5], none⟩,
    ⟨(some 7), (.bin .quo), [.t 6, .c (.f .f32 1082130432)], none⟩,
    ⟨(some 2), .mov, [.t 7], none⟩])
  .ret)), [.tmp 2]⟩
theorem C34 : compF Go.Proofs.Try.prog 34 = some F34 := by kernel_rfl
/-- slices.Repeat[[]float32,float32] -/
def F35 : AFun := ⟨(.seq (.reg [0, 1, 4, 5, 6, 7, 8, 10, 26, 37]
   [⟨(some 4), .mov, [.c (.sl none 0 0 none)], none⟩])
  (.seq (.seq (.reg [0, 1, 4, 5, 6, 7, 8, 10, 26, 37]
   [⟨(some 9), .mov, [.t 1], none⟩,
    ⟨(some 10), (.bin .lss), [.t 9, .c (.i .i64 0)], none⟩])
  (.cond (.t 10) (.reg [0, 1, 4, 5, 6, 7, 8, 26, 37]
   [⟨(some 11), (.mki 9), [.c (.s ⟨#[99, 97, 110, 110, 111, 116, 32, 98, 101, 32, 110, 101, 103, 97, 116, 105, 118, 101]⟩)], none⟩,
    ⟨none, .nilc, [], none⟩])
  .skip))
  (.seq (.reg [0, 4, 5, 6, 7, 8, 26, 37]
   [⟨(some 13), .mov, [.t 0], none⟩,
    ⟨(some 14), .len, [.t 13], none⟩,
    ⟨(some 15), (.cInt .u64), [.t 14], none⟩,
    ⟨(some 16), .mov, [.t 1], none⟩,
    ⟨(some 17), (.cInt .u64), [.t 16], none⟩,
    ⟨(some 18), (.call 74), [.t 15, .t 17], none⟩,
    ⟨(some 12), .mov, [.t 18], none⟩,
    ⟨(some 19), (.ext 0), [.t 12], none⟩,
    ⟨(some 20), (.ext 1), [.t 12], none⟩,
    ⟨(some 5), .mov, [.t 19], none⟩,
    ⟨(some 6), .mov, [.t 20], none⟩])
  (.seq (.seq (.reg [0, 4, 6, 7, 8, 26, 37]
   [⟨(some 21), .mov, [.t 5], none⟩,
    ⟨(some 22), (.bin .gtr), [.t 21, .c (.i .u64 0)], none⟩,
    ⟨(some 23), .mov, [.t 22], none⟩,
    ⟨(some 24), .mov, [.t 6], (some (23, false))⟩,
    ⟨(some 25), (.bin .gtr), [.t 24, .c (.i .u64 9223372036854775807)], (some (23, false))⟩,
    ⟨(some 26), .pick, [.t 23, .c (.b true), .t 25], none⟩])
  (.cond (.t 26) (.reg [0, 4, 6, 7, 8, 37]
   [⟨(some 27), (.mki 9), [.c (.s ⟨#[116, 104, 101, 32, 114, 101, 115, 117, 108, 116, 32, 111, 102, 32, 40, 108, 101, 110, 40, 120, 41, 32, 42, 32, 99, 111, 117, 110, 116, 41, 32, 111, 118, 101, 114, 102, 108, 111, 119, 115]⟩)], none⟩,
    ⟨none, .nilc, [], none⟩])
  .skip))
  (.seq (.reg [0, 4, 7, 8, 37]
   [⟨(some 28), .mov, [.t 6], none⟩,
    ⟨(some 29), (.cInt .i64), [.t 28], none⟩,
    ⟨(some 30), (.mk 1 4 [(.f .f32 0)]), [.t 29, .t 29], none⟩,
    ⟨(some 7), .mov, [.t 30], none⟩])
  (.seq (.reg [4, 7, 8, 37]
   [⟨(some 31), .mov, [.t 7], none⟩,
    ⟨(some 32), .mov, [.t 0], none⟩,
    ⟨(some 33), (.cpy 1), [.t 31, .t 32], none⟩,
    ⟨(some 8), .mov, [.t 33], none⟩])
  (.seq (.block 0 (.loop [4, 7, 8] (.seq (.seq (.reg [4, 7, 8, 37]
   [⟨(some 34), .mov, [.t 8], none⟩,
    ⟨(some 35), .mov, [.t 7], none⟩,
    ⟨(some 36), .len, [.t 35], none⟩,
    ⟨(some 37), (.bin .lss), [.t 34, .t 36], none⟩])
  (.cond (.t 37) .skip
  (.exit 0)))
  (.block 1 (.drw [4, 7, 8, 37] 8 [4, 5, 6, 1, 2, 3]
   [⟨(some 38), .mov, [.t 8], none⟩,
    ⟨(some 39), .mov, [.t 7], none⟩,
    ⟨(some 40), .mov, [.t 8], none⟩,
    ⟨(some 41), (.slS 1 true false false), [.t 39, .t 40], none⟩,
    ⟨(some 42), .mov, [.t 7], none⟩,
    ⟨(some 43), .mov, [.t 8], none⟩,
    ⟨(some 44), (.slS 1 false true false), [.t 42, .t 43], none⟩,
    ⟨(some 45), (.cpy 1), [.t 41, .t 44], none⟩,
    ⟨(some 46), (.bin .add), [.t 38, .t 45], none⟩,
    ⟨(some 8), .mov, [.t 46], none⟩])))))
  (.seq (.reg [4]
   [⟨(some 47), .mov, [.t 7], none⟩,
    ⟨(some 4), .mov, [.t 47], none⟩])
  .ret)))))))), [.tmp 4]⟩
theorem C35 : compF Go.Proofs.Try.prog 35 = some F35 := by kernel_rfl
/-- slices.Clone[[]loop.example/g01180/impl.Vector,loop.example/g01180/impl.Vector] -/
def F36 : AFun := ⟨(.seq (.reg [0, 2, 4]
   [⟨(some 2), .mov, [.c (.sl none 0 0 none)], none⟩])
  (.seq (.seq (.reg [0, 2, 4]
   [⟨(some 3), .mov, [.t 0], none⟩,
    ⟨(some 4), (.eqSl false), [.t 3, .c (.sl none 0 0 none)], none⟩])
  (.cond (.t 4) (.seq (.reg [0, 2]
   [⟨(some 2), .mov, [.c (.sl none 0 0 none)], none⟩])
  .ret)
  .skip))
  (.seq (.reg [2]
   [⟨(some 5), (.bs 3 0 [] []), [], none⟩,
    ⟨(some 6), .mov, [.t 0], none⟩,
    ⟨(some 7), (.app 3 12), [.t 5, .t 6], none⟩,
    ⟨(some 2), .mov, [.t 7], none⟩])
  .ret))), [.tmp 2]⟩
theorem C36 : compF Go.Proofs.Try.prog 36 = some F36 := by kernel_rfl
/-- loop.example/g01180/impl.distances -/
def F37 : AFun := ⟨(.seq (.reg [0, 2, 3, 4, 10, 11, 12]
   [⟨(some 2), .mov, [.c (.sl none 0 0 none)], none⟩])
  (.seq (.reg [0, 2, 3, 4, 10, 11, 12]
   [⟨(some 5), .mov, [.t 0], none⟩,
    ⟨(some 6), .len, [.t 5], none⟩,
    ⟨(some 7), (.bin .sub), [.t 6, .c (.i .i64 1)], none⟩,
    ⟨(some 8), (.mk 1 4 [(.f .f32 0)]), [.t 7, .t 7], none⟩,
    ⟨(some 3), .mov, [.t 8], none⟩])
  (.seq (.seq (.reg [0, 2, 3, 4, 10, 11, 12]
   [⟨(some 9), .mov, [.t 3], none⟩,
    ⟨(some 10), .len, [.t 9], none⟩,
    ⟨(some 11), .mov, [.c (.i .i64 0)], none⟩])
  (.block 0 (.loop [0, 2, 3, 10, 11] (.seq (.reg [0, 2, 3, 4, 10, 11, 12]
   [⟨(some 12), (.bin .lss), [.t 11, .t 10], none⟩])
  (.seq (.cond (.t 12) .skip
  (.exit 0))
  (.seq (.block 1 (.seq (.reg [0, 2, 3, 4, 10, 11, 12]
   [⟨(some 13), .mov, [.t 11], none⟩,
    ⟨(some 4), .mov, [.t 13], none⟩])
  (.drw [0, 2, 3, 4, 10, 11, 12] 13 [6, 2, 4, 3, 5, 10, 7, 8, 9, 11]
   [⟨(some 14), .mov, [.t 3], none⟩,
    ⟨(some 15), .mov, [.t 4], none⟩,
    ⟨(some 16), .mov, [.t 0], none⟩,
    ⟨(some 17), .mov, [.t 4], none⟩,
    ⟨(some 18), (.bin .add), [.t 17, .c (.i .i64 1)], none⟩,
    ⟨(some 19), (.ia 3), [.t 16, .t 18], none⟩,
    ⟨(some 20), (.ldn 3), [.t 19], none⟩,
    ⟨(some 21), .mov, [.t 0], none⟩,
    ⟨(some 22), .mov, [.t 4], none⟩,
    ⟨(some 23), (.ia 3), [.t 21, .t 22], none⟩,
    ⟨(some 24), (.ldn 3), [.t 23], none⟩,
    ⟨(some 25), (.call 71), [.t 20, .t 24], none⟩,
    ⟨(some 26), (.call 75), [.t 25], none⟩,
    ⟨(some 27), (.ia 1), [.t 14, .t 15], none⟩,
    ⟨none, (.st 1), [.t 27, .t 26], none⟩])))
  (.reg [0, 2, 3, 4, 10, 11, 12]
   [⟨(some 28), (.bin .add), [.t 11, .c (.i .i64 1)], none⟩,
    ⟨(some 11), .mov, [.t 28], none⟩])))))))
  (.seq (.reg [2]
   [⟨(some 29), .mov, [.t 3], none⟩,
    ⟨(some 2), .mov, [.t 29], none⟩])
  .ret)))), [.tmp 2]⟩
theorem C37 : compF Go.Proofs.Try.prog 37 = some F37 := by kernel_rfl
/-- loop.example/g01180/impl.greater -/
def F38 : AFun := ⟨(.seq (.reg [0, 1, 4, 7]
   [⟨(some 4), .mov, [.c (.f .f32 0)], none⟩])
  (.seq (.seq (.reg [0, 1, 4, 7]
   [⟨(some 5), .mov, [.t 1], none⟩,
    ⟨(some 6), .mov, [.t 0], none⟩,
    ⟨(some 7), (.bin .gtr), [.t 5, .t 6], none⟩])
  (.cond (.t 7) (.seq (.reg [0, 4]
   [⟨(some 8), .mov, [.t 1], none⟩,
    ⟨(some 4), .mov, [.t 8], none⟩])
  .ret)
  .skip))
  (.seq (.reg [4]
   [⟨(some 9), .mov, [.t 0], none⟩,
    ⟨(some 4), .mov, [.t 9], none⟩])
  .ret))), [.tmp 4]⟩
theorem C38 : compF Go.Proofs.Try.prog 38 = some F38 := by kernel_rfl
/-- loop.example/g01180/impl.size -/
def F39 : AFun := ⟨(.seq (.reg [0, 2]
   [⟨(some 2), .mov, [.c (.f .f32 0)], none⟩])
  (.seq (.reg [2]
   [⟨(some 3), .mov, [.t 0], none⟩,
    ⟨(some 4), (.cFlt .f64), [.t 3], none⟩,
    ⟨(some 5), (.call 76), [.t 4], none⟩,
    ⟨(some 6), (.cFlt .f32), [.t 5], none⟩,
    ⟨(some 2), .mov, [.t 6], none⟩])
  .ret)), [.tmp 2]⟩
theorem C39 : compF Go.Proofs.Try.prog 39 = some F39 := by kernel_rfl
/-- loop.example/g01180/laws.szVectorS -/
def F40 : AFun := ⟨(.seq (.reg [0, 1, 4, 10]
   [⟨(some 4), .mov, [.c (.i .i64 0)], none⟩])
  (.seq (.reg [1, 4, 10]
   [⟨(some 5), .mov, [.t 1], none⟩,
    ⟨(some 6), .mov, [.t 0], none⟩,
    ⟨(some 7), .len, [.t 6], none⟩,
    ⟨(some 8), (.bin .sub), [.t 5, .t 7], none⟩,
    ⟨(some 1), .mov, [.t 8], none⟩])
  (.seq (.seq (.reg [1, 4, 10]
   [⟨(some 9), .mov, [.t 1], none⟩,
    ⟨(some 10), (.bin .lss), [.t 9, .c (.i .i64 0)], none⟩])
  (.cond (.t 10) (.seq (.reg [1, 4]
   [⟨(some 4), .mov, [.c (.i .i64 (-1))], none⟩])
  .ret)
  .skip))
  (.seq (.reg [4]
   [⟨(some 11), .mov, [.t 1], none⟩,
    ⟨(some 4), .mov, [.t 11], none⟩])
  .ret)))), [.tmp 4]⟩
theorem C40 : compF Go.Proofs.Try.prog 40 = some F40 := by kernel_rfl
/-- loop.example/g01180/laws.szBoolS -/
def F41 : AFun := ⟨(.seq (.reg [0, 1, 4, 10]
   [⟨(some 4), .mov, [.c (.i .i64 0)], none⟩])
  (.seq (.reg [1, 4, 10]
   [⟨(some 5), .mov, [.t 1], none⟩,
    ⟨(some 6), .mov, [.t 0], none⟩,
    ⟨(some 7), .len, [.t 6], none⟩,
    ⟨(some 8), (.bin .sub), [.t 5, .t 7], none⟩,
    ⟨(some 1), .mov, [.t 8], none⟩])
  (.seq (.seq (.reg [1, 4, 10]
   [⟨(some 9), .mov, [.t 1], none⟩,
    ⟨(some 10), (.bin .lss), [.t 9, .c (.i .i64 0)], none⟩])
  (.cond (.t 10) (.seq (.reg [1, 4]
   [⟨(some 4), .mov, [.c (.i .i64 (-1))], none⟩])
  .ret)
  .skip))
  (.seq (.reg [4]
   [⟨(some 11), .mov, [.t 1], none⟩,
    ⟨(some 4), .mov, [.t 11], none⟩])
  .ret)))), [.tmp 4]⟩
theorem C41 : compF Go.Proofs.Try.prog 41 = some F41 := by kernel_rfl
/-- loop.example/g01180/laws.szFloat32S -/
def F42 : AFun := ⟨(.seq (.reg [0, 1, 4, 10]
   [⟨(some 4), .mov, [.c (.i .i64 0)], none⟩])
  (.seq (.reg [1, 4, 10]
   [⟨(some 5), .mov, [.t 1], none⟩,
    ⟨(some 6), .mov, [.t 0], none⟩,
    ⟨(some 7), .len, [.t 6], none⟩,
    ⟨(some 8), (.bin .sub), [.t 5, .t 7], none⟩,
    ⟨(some 1), .mov, [.t 8], none⟩])
  (.seq (.seq (.reg [1, 4, 10]
   [⟨(some 9), .mov, [.t 1], none⟩,
    ⟨(some 10), (.bin .lss), [.t 9, .c (.i .i64 0)], none⟩])
  (.cond (.t 10) (.seq (.reg [1, 4]
   [⟨(some 4), .mov, [.c (.i .i64 (-1))], none⟩])
  .ret)
  .skip))
  (.seq (.reg [4]
   [⟨(some 11), .mov, [.t 1], none⟩,
    ⟨(some 4), .mov, [.t 11], none⟩])
  .ret)))), [.tmp 4]⟩
theorem C42 : compF Go.Proofs.Try.prog 42 = some F42 := by kernel_rfl
/-- loop.example/g01180/spec.l08Is -/
def F43 : AFun := ⟨(.seq (.reg [0, 2, 3]
   [⟨(some 2), .mov, [.c (.b false)], none⟩])
  (.seq (.reg [0, 2, 3]
   [⟨(some 4), .mov, [.t 0], none⟩,
    ⟨(some 5), .nilc, [.t 4], none⟩,
    ⟨(some 6), (.fa 0), [.t 5], none⟩,
    ⟨(some 7), .ld1, [.t 6], none⟩,
    ⟨(some 8), .len, [.t 7], none⟩,
    ⟨(some 3), .mov, [.t 8], none⟩])
  (.seq (.reg [2]
   [⟨(some 9), .mov, [.t 0], none⟩,
    ⟨(some 10), .nilc, [.t 9], none⟩,
    ⟨(some 11), (.fa 0), [.t 10], none⟩,
    ⟨(some 12), .ld1, [.t 11], none⟩,
    ⟨(some 13), (.call 77), [.t 12], none⟩,
    ⟨(some 14), .mov, [.t 13], none⟩,
    ⟨(some 15), .mov, [.t 0], (some (14, true))⟩,
    ⟨(some 16), .nilc, [.t 15], (some (14, true))⟩,
    ⟨(some 17), (.fa 1), [.t 16], (some (14, true))⟩,
    ⟨(some 18), .ld1, [.t 17], (some (14, true))⟩,
    ⟨(some 19), .len, [.t 18], (some (14, true))⟩,
    ⟨(some 20), .mov, [.t 3], (some (14, true))⟩,
    ⟨(some 21), (.bin .eql), [.t 19, .t 20], (some (14, true))⟩,
    ⟨(some 22), .pick, [.t 14, .t 21, .c (.b false)], none⟩,
    ⟨(some 23), .mov, [.t 22], none⟩,
    ⟨(some 24), .mov, [.t 0], (some (23, true))⟩,
    ⟨(some 25), .nilc, [.t 24], (some (23, true))⟩,
    ⟨(some 26), (.fa 2), [.t 25], (some (23, true))⟩,
    ⟨(some 27), .ld1, [.t 26], (some (23, true))⟩,
    ⟨(some 28), .len, [.t 27], (some (23, true))⟩,
    ⟨(some 29), .mov, [.t 3], (some (23, true))⟩,
    ⟨(some 30), (.bin .eql), [.t 28, .t 29], (some (23, true))⟩,
    ⟨(some 31), .pick, [.t 23, .t 30, .c (.b false)], none⟩,
    ⟨(some 32), .mov, [.t 31], none⟩,
    ⟨(some 33), .mov, [.t 0], (some (32, true))⟩,
    ⟨(some 34), .nilc, [.t 33], (some (32, true))⟩,
    ⟨(some 35), (.fa 3), [.t 34], (some (32, true))⟩,
    ⟨(some 36), .ld1, [.t 35], (some (32, true))⟩,
    ⟨(some 37), .len, [.t 36], (some (32, true))⟩,
    ⟨(some 38), .mov, [.t 3], (some (32, true))⟩,
    ⟨(some 39), (.bin .sub), [.t 38, .c (.i .i64 1)], (some (32, true))⟩,
    ⟨(some 40), (.bin .eql), [.t 37, .t 39], (some (32, true))⟩,
    ⟨(some 41), .pick, [.t 32, .t 40, .c (.b false)], none⟩,
    ⟨(some 42), .mov, [.t 41], none⟩,
    ⟨(some 43), .mov, [.t 0], (some (42, true))⟩,
    ⟨(some 44), .nilc, [.t 43], (some (42, true))⟩,
    ⟨(some 45), (.fa 8), [.t 44], (some (42, true))⟩,
    ⟨(some 46), .ld1, [.t 45], (some (42, true))⟩,
    ⟨(some 47), (.call 60), [.t 46, .c (.i .i64 0), .c (.i .i64 16)], (some (42, true))⟩,
    ⟨(some 48), .pick, [.t 42, .t 47, .c (.b false)], none⟩,
    ⟨(some 2), .mov, [.t 48], none⟩])
  .ret))), [.tmp 2]⟩
theorem C43 : compF Go.Proofs.Try.prog 43 = some F43 := by kernel_rfl
/-- loop.example/g01180/spec.l08Move -/
def F44 : AFun := ⟨(.seq (.reg [0, 2, 3, 4, 5, 6, 7, 8, 15, 28, 57, 65]
   [⟨(some 2), (.alloc [(.sl none 0 0 none), (.sl none 0 0 none), (.sl none 0 0 none), (.sl none 0 0 none), (.f .f32 0), (.f .f32 0), (.f .f32 0), (.f .f32 0), (.i .i64 0)]), [], none⟩])
  (.seq (.reg [2, 3, 4, 5, 6, 7, 8, 15, 28, 57, 65]
   [⟨(some 9), .mov, [.t 0], none⟩,
    ⟨(some 10), (.call 61), [.t 9], none⟩,
    ⟨(some 3), (.alloc [(.sl none 0 0 none), (.sl none 0 0 none), (.sl none 0 0 none), (.sl none 0 0 none), (.f .f32 0), (.f .f32 0), (.f .f32 0), (.f .f32 0), (.i .i64 0)]), [], none⟩,
    ⟨none, (.st 9), [.t 3, .t 10], none⟩])
  (.seq (.seq (.reg [2, 3, 4, 5, 6, 7, 8, 15, 28, 57, 65]
   [⟨(some 4), .mov, [.c (.i .i64 0)], none⟩])
  (.block 0 (.loop [2, 3, 4] (.seq (.seq (.reg [2, 3, 4, 5, 6, 7, 8, 15, 28, 57, 65]
   [⟨(some 11), .mov, [.t 4], none⟩,
    ⟨(some 12), (.fa 0), [.t 3], none⟩,
    ⟨(some 13), .ld1, [.t 12], none⟩,
    ⟨(some 14), .len, [.t 13], none⟩,
    ⟨(some 15), (.bin .lss), [.t 11, .t 14], none⟩])
  (.cond (.t 15) .skip
  (.exit 0)))
  (.seq (.block 1 (.seq (.reg [2, 3, 4, 5, 6, 7, 8, 15, 28, 57, 65]
   [⟨(some 18), (.fa 0), [.t 3], none⟩,
    ⟨(some 19), .ld1, [.t 18], none⟩,
    ⟨(some 20), .mov, [.t 4], none⟩,
    ⟨(some 21), (.ia 3), [.t 19, .t 20], none⟩,
    ⟨(some 22), (.ldn 3), [.t 21], none⟩,
    ⟨(some 5), (.alloc [(.f .f32 0), (.f .f32 0), (.f .f32 0)]), [], none⟩,
    ⟨none, (.st 3), [.t 5, .t 22], none⟩])
  (.seq (.seq (.reg [2, 3, 4, 5, 6, 7, 8, 15, 28, 57, 65]
   [⟨(some 23), (.fa 2), [.t 3], none⟩,
    ⟨(some 24), .ld1, [.t 23], none⟩,
    ⟨(some 25), .mov, [.t 4], none⟩,
    ⟨(some 26), (.ia 1), [.t 24, .t 25], none⟩,
    ⟨(some 27), .ld1, [.t 26], none⟩,
    ⟨(some 28), .not, [.t 27], none⟩])
  (.cond (.t 28) (.seq (.drw [2, 3, 4, 5, 6, 7, 8, 15, 28, 57, 65] 13 []
   [⟨(some 29), (.ldn 3), [.t 5], none⟩,
    ⟨(some 30), (.ldn 3), [.t 5], none⟩,
    ⟨(some 31), (.fa 1), [.t 3], none⟩,
    ⟨(some 32), .ld1, [.t 31], none⟩,
    ⟨(some 33), .mov, [.t 4], none⟩,
    ⟨(some 34), (.ia 3), [.t 32, .t 33], none⟩,
    ⟨(some 35), (.ldn 3), [.t 34], none⟩,
    ⟨(some 36), (.call 80), [.t 30, .t 35], none⟩,
    ⟨(some 37), (.fa 7), [.t 3], none⟩,
    ⟨(some 38), .ld1, [.t 37], none⟩,
    ⟨(some 39), (.call 79), [.t 36, .t 38], none⟩,
    ⟨(some 40), (.call 78), [.t 29, .t 39], none⟩,
    ⟨(some 6), (.alloc [(.f .f32 0), (.f .f32 0), (.f .f32 0)]), [], none⟩,
    ⟨none, (.st 3), [.t 6, .t 40], none⟩])
  (.drw [2, 3, 4, 5, 6, 7, 8, 15, 28, 57, 65] 7 [4, 5, 3]
   [⟨(some 41), (.fa 0), [.t 3], none⟩,
    ⟨(some 42), .ld1, [.t 41], none⟩,
    ⟨(some 43), .mov, [.t 4], none⟩,
    ⟨(some 44), (.ldn 3), [.t 6], none⟩,
    ⟨(some 45), (.fa 4), [.t 3], none⟩,
    ⟨(some 46), (.ldn 3), [.t 45], none⟩,
    ⟨(some 47), (.call 78), [.t 44, .t 46], none⟩,
    ⟨(some 48), (.ia 3), [.t 42, .t 43], none⟩,
    ⟨none, (.st 3), [.t 48, .t 47], none⟩]))
  .skip))
  (.reg [2, 3, 4, 5, 6, 7, 8, 15, 28, 57, 65]
   [⟨(some 49), (.fa 1), [.t 3], none⟩,
    ⟨(some 50), .ld1, [.t 49], none⟩,
    ⟨(some 51), .mov, [.t 4], none⟩,
    ⟨(some 52), (.ldn 3), [.t 5], none⟩,
    ⟨(some 53), (.ia 3), [.t 50, .t 51], none⟩,
    ⟨none, (.st 3), [.t 53, .t 52], none⟩]))))
  (.reg [2, 3, 4, 5, 6, 7, 8, 15, 28, 57, 65]
   [⟨(some 16), .mov, [.t 4], none⟩,
    ⟨(some 17), (.bin .add), [.t 16, .c (.i .i64 1)], none⟩,
    ⟨(some 4), .mov, [.t 17], none⟩]))))))
  (.seq (.seq (.reg [2, 3, 7, 8, 57, 65]
   [⟨(some 7), .mov, [.c (.i .i64 0)], none⟩])
  (.block 2 (.loop [2, 3, 7] (.seq (.seq (.reg [2, 3, 7, 8, 57, 65]
   [⟨(some 54), .mov, [.t 7], none⟩,
    ⟨(some 55), (.fa 8), [.t 3], none⟩,
    ⟨(some 56), .ld1, [.t 55], none⟩,
    ⟨(some 57), (.bin .lss), [.t 54, .t 56], none⟩])
  (.cond (.t 57) .skip
  (.exit 2)))
  (.seq (.block 3 (.seq (.reg [2, 3, 7, 8, 57, 65]
   [⟨(some 8), .mov, [.c (.i .i64 0)], none⟩])
  (.block 4 (.loop [2, 3, 7, 8, 57] (.seq (.seq (.reg [2, 3, 7, 8, 57, 65]
   [⟨(some 60), .mov, [.t 8], none⟩,
    ⟨(some 61), (.bin .add), [.t 60, .c (.i .i64 1)], none⟩,
    ⟨(some 62), (.fa 0), [.t 3], none⟩,
    ⟨(some 63), .ld1, [.t 62], none⟩,
    ⟨(some 64), .len, [.t 63], none⟩,
    ⟨(some 65), (.bin .lss), [.t 61, .t 64], none⟩])
  (.cond (.t 65) .skip
  (.exit 4)))
  (.seq (.block 5 (.reg [2, 3, 7, 8, 57, 65]
   [⟨(some 68), .mov, [.t 8], none⟩,
    ⟨(some 69), (.call 81), [.t 3, .t 68], none⟩]))
  (.reg [2, 3, 7, 8, 57, 65]
   [⟨(some 66), .mov, [.t 8], none⟩,
    ⟨(some 67), (.bin .add), [.t 66, .c (.i .i64 1)], none⟩,
    ⟨(some 8), .mov, [.t 67], none⟩])))))))
  (.reg [2, 3, 7, 8, 57, 65]
   [⟨(some 58), .mov, [.t 7], none⟩,
    ⟨(some 59), (.bin .add), [.t 58, .c (.i .i64 1)], none⟩,
    ⟨(some 7), .mov, [.t 59], none⟩]))))))
  (.seq (.reg [2]
   [⟨(some 70), (.ldn 9), [.t 3], none⟩,
    ⟨none, (.st 9), [.t 2, .t 70], none⟩])
  .ret))))), [.cells 2 9]⟩
theorem C44 : compF Go.Proofs.Try.prog 44 = some F44 := by kernel_rfl
/-- loop.example/g01180/laws.toVectorS -/
def F45 : AFun := ⟨(.seq (.reg [0, 2, 3, 4, 11]
   [⟨(some 2), .mov, [.c (.sl none 0 0 none)], none⟩])
  (.seq (.reg [0, 2, 3, 4, 11]
   [⟨(some 5), .mov, [.t 0], none⟩,
    ⟨(some 6), .len, [.t 5], none⟩,
    ⟨(some 7), (.mk 3 12 [(.f .f32 0), (.f .f32 0), (.f .f32 0)]), [.t 6, .t 6], none⟩,
    ⟨(some 3), .mov, [.t 7], none⟩])
  (.seq (.seq (.reg [0, 2, 3, 4, 11]
   [⟨(some 4), .mov, [.c (.i .i64 0)], none⟩])
  (.block 0 (.loop [0, 2, 3, 4] (.seq (.seq (.reg [0, 2, 3, 4, 11]
   [⟨(some 8), .mov, [.t 4], none⟩,
    ⟨(some 9), .mov, [.t 0], none⟩,
    ⟨(some 10), .len, [.t 9], none⟩,
    ⟨(some 11), (.bin .lss), [.t 8, .t 10], none⟩])
  (.cond (.t 11) .skip
  (.exit 0)))
  (.seq (.block 1 (.reg [0, 2, 3, 4, 11]
   [⟨(some 14), .mov, [.t 3], none⟩,
    ⟨(some 15), .mov, [.t 4], none⟩,
    ⟨(some 16), .mov, [.t 0], none⟩,
    ⟨(some 17), .mov, [.t 4], none⟩,
    ⟨(some 18), (.ia 3), [.t 16, .t 17], none⟩,
    ⟨(some 19), (.ldn 3), [.t 18], none⟩,
    ⟨(some 20), (.call 48), [.t 19], none⟩,
    ⟨(some 21), (.ia 3), [.t 14, .t 15], none⟩,
    ⟨none, (.st 3), [.t 21, .t 20], none⟩]))
  (.reg [0, 2, 3, 4, 11]
   [⟨(some 12), .mov, [.t 4], none⟩,
    ⟨(some 13), (.bin .add), [.t 12, .c (.i .i64 1)], none⟩,
    ⟨(some 4), .mov, [.t 13], none⟩]))))))
  (.seq (.reg [2]
   [⟨(some 22), .mov, [.t 3], none⟩,
    ⟨(some 2), .mov, [.t 22], none⟩])
  .ret)))), [.tmp 2]⟩
theorem C45 : compF Go.Proofs.Try.prog 45 = some F45 := by kernel_rfl
/-- loop.example/g01180/laws.toBoolS -/
def F46 : AFun := ⟨(.seq (.reg [0, 2, 3, 4, 11]
   [⟨(some 2), .mov, [.c (.sl none 0 0 none)], none⟩])
  (.seq (.reg [0, 2, 3, 4, 11]
   [⟨(some 5), .mov, [.t 0], none⟩,
    ⟨(some 6), .len, [.t 5], none⟩,
    ⟨(some 7), (.mk 1 1 [(.b false)]), [.t 6, .t 6], none⟩,
    ⟨(some 3), .mov, [.t 7], none⟩])
  (.seq (.seq (.reg [0, 2, 3, 4, 11]
   [⟨(some 4), .mov, [.c (.i .i64 0)], none⟩])
  (.block 0 (.loop [0, 2, 3, 4] (.seq (.seq (.reg [0, 2, 3, 4, 11]
   [⟨(some 8), .mov, [.t 4], none⟩,
    ⟨(some 9), .mov, [.t 0], none⟩,
    ⟨(some 10), .len, [.t 9], none⟩,
    ⟨(some 11), (.bin .lss), [.t 8, .t 10], none⟩])
  (.cond (.t 11) .skip
  (.exit 0)))
  (.seq (.block 1 (.reg [0, 2, 3, 4, 11]
   [⟨(some 14), .mov, [.t 3], none⟩,
    ⟨(some 15), .mov, [.t 4], none⟩,
    ⟨(some 16), .mov, [.t 0], none⟩,
    ⟨(some 17), .mov, [.t 4], none⟩,
    ⟨(some 18), (.ia 1), [.t 16, .t 17], none⟩,
    ⟨(some 19), .ld1, [.t 18], none⟩,
    ⟨(some 20), (.ia 1), [.t 14, .t 15], none⟩,
    ⟨none, (.st 1), [.t 20, .t 19], none⟩]))
  (.reg [0, 2, 3, 4, 11]
   [⟨(some 12), .mov, [.t 4], none⟩,
    ⟨(some 13), (.bin .add), [.t 12, .c (.i .i64 1)], none⟩,
    ⟨(some 4), .mov, [.t 13], none⟩]))))))
  (.seq (.reg [2]
   [⟨(some 21), .mov, [.t 3], none⟩,
    ⟨(some 2), .mov, [.t 21], none⟩])
  .ret)))), [.tmp 2]⟩
theorem C46 : compF Go.Proofs.Try.prog 46 = some F46 := by kernel_rfl
/-- loop.example/g01180/laws.toFloat32S -/
def F47 : AFun := ⟨(.seq (.reg [0, 2, 3, 4, 11]
   [⟨(some 2), .mov, [.c (.sl none 0 0 none)], none⟩])
  (.seq (.reg [0, 2, 3, 4, 11]
   [⟨(some 5), .mov, [.t 0], none⟩,
    ⟨(some 6), .len, [.t 5], none⟩,
    ⟨(some 7), (.mk 1 4 [(.f .f32 0)]), [.t 6, .t 6], none⟩,
    ⟨(some 3), .mov, [.t 7], none⟩])
  (.seq (.seq (.reg [0, 2, 3, 4, 11]
   [⟨(some 4), .mov, [.c (.i .i64 0)], none⟩])
  (.block 0 (.loop [0, 2, 3, 4] (.seq (.seq (.reg [0, 2, 3, 4, 11]
   [⟨(some 8), .mov, [.t 4], none⟩,
    ⟨(some 9), .mov, [.t 0], none⟩,
    ⟨(some 10), .len, [.t 9], none⟩,
    ⟨(some 11), (.bin .lss), [.t 8, .t 10], none⟩])
  (.cond (.t 11) .skip
  (.exit 0)))
  (.seq (.block 1 (.reg [0, 2, 3, 4, 11]
   [⟨(some 14), .mov, [.t 3], none⟩,
    ⟨(some 15), .mov, [.t 4], none⟩,
    ⟨(some 16), .mov, [.t 0], none⟩,
    ⟨(some 17), .mov, [.t 4], none⟩,
    ⟨(some 18), (.ia 1), [.t 16, .t 17], none⟩,
    ⟨(some 19), .ld1, [.t 18], none⟩,
    ⟨(some 20), (.ia 1), [.t 14, .t 15], none⟩,
    ⟨none, (.st 1), [.t 20, .t 19], none⟩]))
  (.reg [0, 2, 3, 4, 11]
   [⟨(some 12), .mov, [.t 4], none⟩,
    ⟨(some 13), (.bin .add), [.t 12, .c (.i .i64 1)], none⟩,
    ⟨(some 4), .mov, [.t 13], none⟩]))))))
  (.seq (.reg [2]
   [⟨(some 21), .mov, [.t 3], none⟩,
    ⟨(some 2), .mov, [.t 21], none⟩])
  .ret)))), [.tmp 2]⟩
theorem C47 : compF Go.Proofs.Try.prog 47 = some F47 := by kernel_rfl
/-- loop.example/g01180/laws.toVector -/
def F48 : AFun := ⟨(.seq (.reg [1, 2, 3]
   [⟨(some 1), .box, [.t 0], none⟩,
    ⟨(some 2), (.alloc [(.f .f32 0), (.f .f32 0), (.f .f32 0)]), [], none⟩])
  (.seq (.reg [1, 2, 3]
   [⟨(some 3), (.alloc [(.f .f32 0), (.f .f32 0), (.f .f32 0)]), [], none⟩])
  (.seq (.reg [1, 2, 3]
   [⟨(some 4), (.fa 0), [.t 1], none⟩,
    ⟨(some 5), .ld1, [.t 4], none⟩,
    ⟨(some 6), (.fa 0), [.t 3], none⟩,
    ⟨none, (.st 1), [.t 6, .t 5], none⟩])
  (.seq (.reg [1, 2, 3]
   [⟨(some 7), (.fa 1), [.t 1], none⟩,
    ⟨(some 8), .ld1, [.t 7], none⟩,
    ⟨(some 9), (.fa 1), [.t 3], none⟩,
    ⟨none, (.st 1), [.t 9, .t 8], none⟩])
  (.seq (.reg [2, 3]
   [⟨(some 10), (.fa 2), [.t 1], none⟩,
    ⟨(some 11), .ld1, [.t 10], none⟩,
    ⟨(some 12), (.fa 2), [.t 3], none⟩,
    ⟨none, (.st 1), [.t 12, .t 11], none⟩])
  (.seq (.reg [2]
   [⟨(some 13), (.ldn 3), [.t 3], none⟩,
    ⟨none, (.st 3), [.t 2, .t 13], none⟩])
  .ret)))))), [.cells 2 3]⟩
theorem C48 : compF Go.Proofs.Try.prog 48 = some F48 := by kernel_rfl
/-- loop.example/g01180/laws.eqVectorS -/
def F49 : AFun := ⟨(.seq (.reg [0, 1, 4, 5, 10, 14, 26]
   [⟨(some 4), .mov, [.c (.b false)], none⟩])
  (.seq (.seq (.reg [0, 1, 4, 5, 10, 14, 26]
   [⟨(some 6), .mov, [.t 0], none⟩,
    ⟨(some 7), .len, [.t 6], none⟩,
    ⟨(some 8), .mov, [.t 1], none⟩,
    ⟨(some 9), .len, [.t 8], none⟩,
    ⟨(some 10), (.bin .neq), [.t 7, .t 9], none⟩])
  (.cond (.t 10) (.seq (.reg [0, 1, 4, 5, 14, 26]
   [⟨(some 4), .mov, [.c (.b false)], none⟩])
  .ret)
  .skip))
  (.seq (.seq (.reg [0, 1, 4, 5, 14, 26]
   [⟨(some 5), .mov, [.c (.i .i64 0)], none⟩])
  (.block 0 (.loop [0, 1, 4, 5] (.seq (.seq (.reg [0, 1, 4, 5, 14, 26]
   [⟨(some 11), .mov, [.t 5], none⟩,
    ⟨(some 12), .mov, [.t 0], none⟩,
    ⟨(some 13), .len, [.t 12], none⟩,
    ⟨(some 14), (.bin .lss), [.t 11, .t 13], none⟩])
  (.cond (.t 14) .skip
  (.exit 0)))
  (.seq (.block 1 (.seq (.drw [0, 1, 4, 5, 14, 26] 8 [4, 5, 6]
   [⟨(some 17), .mov, [.t 0], none⟩,
    ⟨(some 18), .mov, [.t 5], none⟩,
    ⟨(some 19), (.ia 3), [.t 17, .t 18], none⟩,
    ⟨(some 20), (.ldn 3), [.t 19], none⟩,
    ⟨(some 21), .mov, [.t 1], none⟩,
    ⟨(some 22), .mov, [.t 5], none⟩,
    ⟨(some 23), (.ia 3), [.t 21, .t 22], none⟩,
    ⟨(some 24), (.ldn 3), [.t 23], none⟩,
    ⟨(some 25), (.call 52), [.t 20, .t 24], none⟩,
    ⟨(some 26), .not, [.t 25], none⟩])
  (.cond (.t 26) (.seq (.reg [0, 1, 4, 5, 14, 26]
   [⟨(some 4), .mov, [.c (.b false)], none⟩])
  .ret)
  .skip)))
  (.reg [0, 1, 4, 5, 14, 26]
   [⟨(some 15), .mov, [.t 5], none⟩,
    ⟨(some 16), (.bin .add), [.t 15, .c (.i .i64 1)], none⟩,
    ⟨(some 5), .mov, [.t 16], none⟩]))))))
  (.seq (.reg [4]
   [⟨(some 4), .mov, [.c (.b true)], none⟩])
  .ret)))), [.tmp 4]⟩
theorem C49 : compF Go.Proofs.Try.prog 49 = some F49 := by kernel_rfl
/-- loop.example/g01180/laws.eqBoolS -/
def F50 : AFun := ⟨(.seq (.reg [0, 1, 4, 5, 10, 14, 25]
   [⟨(some 4), .mov, [.c (.b false)], none⟩])
  (.seq (.seq (.reg [0, 1, 4, 5, 10, 14, 25]
   [⟨(some 6), .mov, [.t 0], none⟩,
    ⟨(some 7), .len, [.t 6], none⟩,
    ⟨(some 8), .mov, [.t 1], none⟩,
    ⟨(some 9), .len, [.t 8], none⟩,
    ⟨(some 10), (.bin .neq), [.t 7, .t 9], none⟩])
  (.cond (.t 10) (.seq (.reg [0, 1, 4, 5, 14, 25]
   [⟨(some 4), .mov, [.c (.b false)], none⟩])
  .ret)
  .skip))
  (.seq (.seq (.reg [0, 1, 4, 5, 14, 25]
   [⟨(some 5), .mov, [.c (.i .i64 0)], none⟩])
  (.block 0 (.loop [0, 1, 4, 5] (.seq (.seq (.reg [0, 1, 4, 5, 14, 25]
   [⟨(some 11), .mov, [.t 5], none⟩,
    ⟨(some 12), .mov, [.t 0], none⟩,
    ⟨(some 13), .len, [.t 12], none⟩,
    ⟨(some 14), (.bin .lss), [.t 11, .t 13], none⟩])
  (.cond (.t 14) .skip
  (.exit 0)))
  (.seq (.block 1 (.seq (.drw [0, 1, 4, 5, 14, 25] 8 [4, 5, 6]
   [⟨(some 17), .mov, [.t 0], none⟩,
    ⟨(some 18), .mov, [.t 5], none⟩,
    ⟨(some 19), (.ia 1), [.t 17, .t 18], none⟩,
    ⟨(some 20), .ld1, [.t 19], none⟩,
    ⟨(some 21), .mov, [.t 1], none⟩,
    ⟨(some 22), .mov, [.t 5], none⟩,
    ⟨(some 23), (.ia 1), [.t 21, .t 22], none⟩,
    ⟨(some 24), .ld1, [.t 23], none⟩,
    ⟨(some 25), (.eqB true), [.t 20, .t 24], none⟩])
  (.cond (.t 25) (.seq (.reg [0, 1, 4, 5, 14, 25]
   [⟨(some 4), .mov, [.c (.b false)], none⟩])
  .ret)
  .skip)))
  (.reg [0, 1, 4, 5, 14, 25]
   [⟨(some 15), .mov, [.t 5], none⟩,
    ⟨(some 16), (.bin .add), [.t 15, .c (.i .i64 1)], none⟩,
    ⟨(some 5), .mov, [.t 16], none⟩]))))))
  (.seq (.reg [4]
   [⟨(some 4), .mov, [.c (.b true)], none⟩])
  .ret)))), [.tmp 4]⟩
theorem C50 : compF Go.Proofs.Try.prog 50 = some F50 := by kernel_rfl
/-- loop.example/g01180/laws.eqFloat32S -/
def F51 : AFun := ⟨(.seq (.reg [0, 1, 4, 5, 10, 14, 28]
   [⟨(some 4), .mov, [.c (.b false)], none⟩])
  (.seq (.seq (.reg [0, 1, 4, 5, 10, 14, 28]
   [⟨(some 6), .mov, [.t 0], none⟩,
    ⟨(some 7), .len, [.t 6], none⟩,
    ⟨(some 8), .mov, [.t 1], none⟩,
    ⟨(some 9), .len, [.t 8], none⟩,
    ⟨(some 10), (.bin .neq), [.t 7, .t 9], none⟩])
  (.cond (.t 10) (.seq (.reg [0, 1, 4, 5, 14, 28]
   [⟨(some 4), .mov, [.c (.b false)], none⟩])
  .ret)
  .skip))
  (.seq (.seq (.reg [0, 1, 4, 5, 14, 28]
   [⟨(some 5), .mov, [.c (.i .i64 0)], none⟩])
  (.block 0 (.loop [0, 1, 4, 5] (.seq (.seq (.reg [0, 1, 4, 5, 14, 28]
   [⟨(some 11), .mov, [.t 5], none⟩,
    ⟨(some 12), .mov, [.t 0], none⟩,
    ⟨(some 13), .len, [.t 12], none⟩,
    ⟨(some 14), (.bin .lss), [.t 11, .t 13], none⟩])
  (.cond (.t 14) .skip
  (.exit 0)))
  (.seq (.block 1 (.seq (.drw [0, 1, 4, 5, 14, 28] 10 [7, 6, 5, 8]
   [⟨(some 17), .mov, [.t 0], none⟩,
    ⟨(some 18), .mov, [.t 5], none⟩,
    ⟨(some 19), (.ia 1), [.t 17, .t 18], none⟩,
    ⟨(some 20), .ld1, [.t 19], none⟩,
    ⟨(some 21), (.cFlt .f64), [.t 20], none⟩,
    ⟨(some 22), .mov, [.t 1], none⟩,
    ⟨(some 23), .mov, [.t 5], none⟩,
    ⟨(some 24), (.ia 1), [.t 22, .t 23], none⟩,
    ⟨(some 25), .ld1, [.t 24], none⟩,
    ⟨(some 26), (.cFlt .f64), [.t 25], none⟩,
    ⟨(some 27), (.call 53), [.t 21, .t 26], none⟩,
    ⟨(some 28), .not, [.t 27], none⟩])
  (.cond (.t 28) (.seq (.reg [0, 1, 4, 5, 14, 28]
   [⟨(some 4), .mov, [.c (.b false)], none⟩])
  .ret)
  .skip)))
  (.reg [0, 1, 4, 5, 14, 28]
   [⟨(some 15), .mov, [.t 5], none⟩,
    ⟨(some 16), (.bin .add), [.t 15, .c (.i .i64 1)], none⟩,
    ⟨(some 5), .mov, [.t 16], none⟩]))))))
  (.seq (.reg [4]
   [⟨(some 4), .mov, [.c (.b true)], none⟩])
  .ret)))), [.tmp 4]⟩
theorem C51 : compF Go.Proofs.Try.prog 51 = some F51 := by kernel_rfl
/-- loop.example/g01180/laws.eqVector -/
def F52 : AFun := ⟨(.seq (.reg [2, 3, 4, 12, 20, 28]
   [⟨(some 2), .box, [.t 0], none⟩,
    ⟨(some 3), .box, [.t 1], none⟩,
    ⟨(some 4), .mov, [.c (.b false)], none⟩])
  (.seq (.seq (.reg [2, 3, 4, 12, 20, 28]
   [⟨(some 5), (.fa 0), [.t 2], none⟩,
    ⟨(some 6), .ld1, [.t 5], none⟩,
    ⟨(some 7), (.cFlt .f64), [.t 6], none⟩,
    ⟨(some 8), (.fa 0), [.t 3], none⟩,
    ⟨(some 9), .ld1, [.t 8], none⟩,
    ⟨(some 10), (.cFlt .f64), [.t 9], none⟩,
    ⟨(some 11), (.call 53), [.t 7, .t 10], none⟩,
    ⟨(some 12), .not, [.t 11], none⟩])
  (.cond (.t 12) (.seq (.reg [2, 3, 4, 20, 28]
   [⟨(some 4), .mov, [.c (.b false)], none⟩])
  .ret)
  .skip))
  (.seq (.seq (.reg [2, 3, 4, 20, 28]
   [⟨(some 13), (.fa 1), [.t 2], none⟩,
    ⟨(some 14), .ld1, [.t 13], none⟩,
    ⟨(some 15), (.cFlt .f64), [.t 14], none⟩,
    ⟨(some 16), (.fa 1), [.t 3], none⟩,
    ⟨(some 17), .ld1, [.t 16], none⟩,
    ⟨(some 18), (.cFlt .f64), [.t 17], none⟩,
    ⟨(some 19), (.call 53), [.t 15, .t 18], none⟩,
    ⟨(some 20), .not, [.t 19], none⟩])
  (.cond (.t 20) (.seq (.reg [2, 3, 4, 28]
   [⟨(some 4), .mov, [.c (.b false)], none⟩])
  .ret)
  .skip))
  (.seq (.seq (.reg [4, 28]
   [⟨(some 21), (.fa 2), [.t 2], none⟩,
    ⟨(some 22), .ld1, [.t 21], none⟩,
    ⟨(some 23), (.cFlt .f64), [.t 22], none⟩,
    ⟨(some 24), (.fa 2), [.t 3], none⟩,
    ⟨(some 25), .ld1, [.t 24], none⟩,
    ⟨(some 26), (.cFlt .f64), [.t 25], none⟩,
    ⟨(some 27), (.call 53), [.t 23, .t 26], none⟩,
    ⟨(some 28), .not, [.t 27], none⟩])
  (.cond (.t 28) (.seq (.reg [4]
   [⟨(some 4), .mov, [.c (.b false)], none⟩])
  .ret)
  .skip))
  (.seq (.reg [4]
   [⟨(some 4), .mov, [.c (.b true)], none⟩])
  .ret))))), [.tmp 4]⟩
theorem C52 : compF Go.Proofs.Try.prog 52 = some F52 := by kernel_rfl
/-- loop.example/g01180/laws.sameFloat -/
def F53 : AFun := ⟨(.seq (.reg [0, 1, 4, 12, 26]
   [⟨(some 4), .mov, [.c (.b false)], none⟩])
  (.seq (.seq (.reg [0, 1, 4, 12, 26]
   [⟨(some 5), .mov, [.t 0], none⟩,
    ⟨(some 6), .mov, [.t 0], none⟩,
    ⟨(some 7), (.bin .neq), [.t 5, .t 6], none⟩,
    ⟨(some 8), .mov, [.t 7], none⟩,
    ⟨(some 9), .mov, [.t 1], (some (8, false))⟩,
    ⟨(some 10), .mov, [.t 1], (some (8, false))⟩,
    ⟨(some 11), (.bin .neq), [.t 9, .t 10], (some (8, false))⟩,
    ⟨(some 12), .pick, [.t 8, .c (.b true), .t 11], none⟩])
  (.cond (.t 12) (.seq (.reg [0, 1, 4, 26]
   [⟨(some 13), .mov, [.t 0], none⟩,
    ⟨(some 14), .mov, [.t 0], none⟩,
    ⟨(some 15), (.bin .neq), [.t 13, .t 14], none⟩,
    ⟨(some 16), .mov, [.t 15], none⟩,
    ⟨(some 17), .mov, [.t 1], (some (16, true))⟩,
    ⟨(some 18), .mov, [.t 1], (some (16, true))⟩,
    ⟨(some 19), (.bin .neq), [.t 17, .t 18], (some (16, true))⟩,
    ⟨(some 20), .pick, [.t 16, .t 19, .c (.b false)], none⟩,
    ⟨(some 4), .mov, [.t 20], none⟩])
  .ret)
  .skip))
  (.seq (.seq (.reg [0, 1, 4, 26]
   [⟨(some 21), .mov, [.t 0], none⟩,
    ⟨(some 22), (.bin .eql), [.t 21, .c (.f .f64 0)], none⟩,
    ⟨(some 23), .mov, [.t 22], none⟩,
    ⟨(some 24), .mov, [.t 1], (some (23, true))⟩,
    ⟨(some 25), (.bin .eql), [.t 24, .c (.f .f64 0)], (some (23, true))⟩,
    ⟨(some 26), .pick, [.t 23, .t 25, .c (.b false)], none⟩])
  (.cond (.t 26) (.seq (.reg [0, 1, 4]
   [⟨(some 27), .mov, [.t 0], none⟩,
    ⟨(some 28), (.bin .quo), [.c (.f .f64 4607182418800017408), .t 27], none⟩,
    ⟨(some 29), (.bin .gtr), [.t 28, .c (.f .f64 0)], none⟩,
    ⟨(some 30), .mov, [.t 1], none⟩,
    ⟨(some 31), (.bin .quo), [.c (.f .f64 4607182418800017408), .t 30], none⟩,
    ⟨(some 32), (.bin .gtr), [.t 31, .c (.f .f64 0)], none⟩,
    ⟨(some 33), (.eqB false), [.t 29, .t 32], none⟩,
    ⟨(some 4), .mov, [.t 33], none⟩])
  .ret)
  .skip))
  (.seq (.reg [4]
   [⟨(some 34), .mov, [.t 0], none⟩,
    ⟨(some 35), .mov, [.t 1], none⟩,
    ⟨(some 36), (.bin .eql), [.t 34, .t 35], none⟩,
    ⟨(some 4), .mov, [.t 36], none⟩])
  .ret)))), [.tmp 4]⟩
theorem C53 : compF Go.Proofs.Try.prog 53 = some F53 := by kernel_rfl
/-- loop.example/g01180/laws.markVectorS -/
def F54 : AFun := ⟨(.seq (.reg [0, 1, 4, 5, 9]
   [⟨(some 4), .mov, [.c (.i .i64 0)], none⟩])
  (.seq (.seq (.reg [0, 1, 4, 5, 9]
   [⟨(some 5), .mov, [.c (.i .i64 0)], none⟩])
  (.block 0 (.loop [0, 1, 4, 5] (.seq (.seq (.reg [0, 1, 4, 5, 9]
   [⟨(some 6), .mov, [.t 5], none⟩,
    ⟨(some 7), .mov, [.t 0], none⟩,
    ⟨(some 8), .len, [.t 7], none⟩,
    ⟨(some 9), (.bin .lss), [.t 6, .t 8], none⟩])
  (.cond (.t 9) .skip
  (.exit 0)))
  (.seq (.block 1 (.seq (.reg [0, 1, 4, 5, 9]
   [⟨(some 12), .mov, [.t 0], none⟩,
    ⟨(some 13), .mov, [.t 5], none⟩,
    ⟨(some 14), .mov, [.t 1], none⟩,
    ⟨(some 15), (.cFlt .f32), [.t 14], none⟩,
    ⟨(some 16), (.ia 3), [.t 12, .t 13], none⟩,
    ⟨(some 17), (.fa 0), [.t 16], none⟩,
    ⟨none, (.st 1), [.t 17, .t 15], none⟩])
  (.seq (.reg [0, 1, 4, 5, 9]
   [⟨(some 18), .mov, [.t 1], none⟩,
    ⟨(some 19), (.bin .add), [.t 18, .c (.i .i64 1)], none⟩,
    ⟨(some 1), .mov, [.t 19], none⟩])
  (.seq (.reg [0, 1, 4, 5, 9]
   [⟨(some 20), .mov, [.t 0], none⟩,
    ⟨(some 21), .mov, [.t 5], none⟩,
    ⟨(some 22), .mov, [.t 1], none⟩,
    ⟨(some 23), (.cFlt .f32), [.t 22], none⟩,
    ⟨(some 24), (.ia 3), [.t 20, .t 21], none⟩,
    ⟨(some 25), (.fa 1), [.t 24], none⟩,
    ⟨none, (.st 1), [.t 25, .t 23], none⟩])
  (.seq (.reg [0, 1, 4, 5, 9]
   [⟨(some 26), .mov, [.t 1], none⟩,
    ⟨(some 27), (.bin .add), [.t 26, .c (.i .i64 1)], none⟩,
    ⟨(some 1), .mov, [.t 27], none⟩])
  (.seq (.reg [0, 1, 4, 5, 9]
   [⟨(some 28), .mov, [.t 0], none⟩,
    ⟨(some 29), .mov, [.t 5], none⟩,
    ⟨(some 30), .mov, [.t 1], none⟩,
    ⟨(some 31), (.cFlt .f32), [.t 30], none⟩,
    ⟨(some 32), (.ia 3), [.t 28, .t 29], none⟩,
    ⟨(some 33), (.fa 2), [.t 32], none⟩,
    ⟨none, (.st 1), [.t 33, .t 31], none⟩])
  (.reg [0, 1, 4, 5, 9]
   [⟨(some 34), .mov, [.t 1], none⟩,
    ⟨(some 35), (.bin .add), [.t 34, .c (.i .i64 1)], none⟩,
    ⟨(some 1), .mov, [.t 35], none⟩])))))))
  (.reg [0, 1, 4, 5, 9]
   [⟨(some 10), .mov, [.t 5], none⟩,
    ⟨(some 11), (.bin .add), [.t 10, .c (.i .i64 1)], none⟩,
    ⟨(some 5), .mov, [.t 11], none⟩]))))))
  (.seq (.reg [4]
   [⟨(some 36), .mov, [.t 1], none⟩,
    ⟨(some 4), .mov, [.t 36], none⟩])
  .ret))), [.tmp 4]⟩
theorem C54 : compF Go.Proofs.Try.prog 54 = some F54 := by kernel_rfl
/-- loop.example/g01180/laws.markBoolS -/
def F55 : AFun := ⟨(.seq (.reg [0, 1, 4, 5, 9]
   [⟨(some 4), .mov, [.c (.i .i64 0)], none⟩])
  (.seq (.seq (.reg [0, 1, 4, 5, 9]
   [⟨(some 5), .mov, [.c (.i .i64 0)], none⟩])
  (.block 0 (.loop [0, 1, 4, 5] (.seq (.seq (.reg [0, 1, 4, 5, 9]
   [⟨(some 6), .mov, [.t 5], none⟩,
    ⟨(some 7), .mov, [.t 0], none⟩,
    ⟨(some 8), .len, [.t 7], none⟩,
    ⟨(some 9), (.bin .lss), [.t 6, .t 8], none⟩])
  (.cond (.t 9) .skip
  (.exit 0)))
  (.seq (.block 1 (.seq (.reg [0, 1, 4, 5, 9]
   [⟨(some 12), .mov, [.t 0], none⟩,
    ⟨(some 13), .mov, [.t 5], none⟩,
    ⟨(some 14), .mov, [.t 1], none⟩,
    ⟨(some 15), (.bin .rem), [.t 14, .c (.i .i64 3)], none⟩,
    ⟨(some 16), (.bin .eql), [.t 15, .c (.i .i64 0)], none⟩,
    ⟨(some 17), (.ia 1), [.t 12, .t 13], none⟩,
    ⟨none, (.st 1), [.t 17, .t 16], none⟩])
  (.reg [0, 1, 4, 5, 9]
   [⟨(some 18), .mov, [.t 1], none⟩,
    ⟨(some 19), (.bin .add), [.t 18, .c (.i .i64 1)], none⟩,
    ⟨(some 1), .mov, [.t 19], none⟩])))
  (.reg [0, 1, 4, 5, 9]
   [⟨(some 10), .mov, [.t 5], none⟩,
    ⟨(some 11), (.bin .add), [.t 10, .c (.i .i64 1)], none⟩,
    ⟨(some 5), .mov, [.t 11], none⟩]))))))
  (.seq (.reg [4]
   [⟨(some 20), .mov, [.t 1], none⟩,
    ⟨(some 4), .mov, [.t 20], none⟩])
  .ret))), [.tmp 4]⟩
theorem C55 : compF Go.Proofs.Try.prog 55 = some F55 := by kernel_rfl
/-- loop.example/g01180/laws.markFloat32S -/
def F56 : AFun := ⟨(.seq (.reg [0, 1, 4, 5, 9]
   [⟨(some 4), .mov, [.c (.i .i64 0)], none⟩])
  (.seq (.seq (.reg [0, 1, 4, 5, 9]
   [⟨(some 5), .mov, [.c (.i .i64 0)], none⟩])
  (.block 0 (.loop [0, 1, 4, 5] (.seq (.seq (.reg [0, 1, 4, 5, 9]
   [⟨(some 6), .mov, [.t 5], none⟩,
    ⟨(some 7), .mov, [.t 0], none⟩,
    ⟨(some 8), .len, [.t 7], none⟩,
    ⟨(some 9), (.bin .lss), [.t 6, .t 8], none⟩])
  (.cond (.t 9) .skip
  (.exit 0)))
  (.seq (.block 1 (.seq (.reg [0, 1, 4, 5, 9]
   [⟨(some 12), .mov, [.t 0], none⟩,
    ⟨(some 13), .mov, [.t 5], none⟩,
    ⟨(some 14), .mov, [.t 1], none⟩,
    ⟨(some 15), (.cFlt .f32), [.t 14], none⟩,
    ⟨(some 16), (.ia 1), [.t 12, .t 13], none⟩,
    ⟨none, (.st 1), [.t 16, .t 15], none⟩])
  (.reg [0, 1, 4, 5, 9]
   [⟨(some 17), .mov, [.t 1], none⟩,
    ⟨(some 18), (.bin .add), [.t 17, .c (.i .i64 1)], none⟩,
    ⟨(some 1), .mov, [.t 18], none⟩])))
  (.reg [0, 1, 4, 5, 9]
   [⟨(some 10), .mov, [.t 5], none⟩,
    ⟨(some 11), (.bin .add), [.t 10, .c (.i .i64 1)], none⟩,
    ⟨(some 5), .mov, [.t 11], none⟩]))))))
  (.seq (.reg [4]
   [⟨(some 19), .mov, [.t 1], none⟩,
    ⟨(some 4), .mov, [.t 19], none⟩])
  .ret))), [.tmp 4]⟩
theorem C56 : compF Go.Proofs.Try.prog 56 = some F56 := by kernel_rfl
/-- loop.example/g01180/laws.heldVectorS -/
def F57 : AFun := ⟨(.seq (.reg [0, 1, 4, 5, 9, 19, 29, 39]
   [⟨(some 4), .mov, [.c (.i .i64 0)], none⟩])
  (.seq (.seq (.reg [0, 1, 4, 5, 9, 19, 29, 39]
   [⟨(some 5), .mov, [.c (.i .i64 0)], none⟩])
  (.block 0 (.loop [0, 1, 4, 5] (.seq (.seq (.reg [0, 1, 4, 5, 9, 19, 29, 39]
   [⟨(some 6), .mov, [.t 5], none⟩,
    ⟨(some 7), .mov, [.t 0], none⟩,
    ⟨(some 8), .len, [.t 7], none⟩,
    ⟨(some 9), (.bin .lss), [.t 6, .t 8], none⟩])
  (.cond (.t 9) .skip
  (.exit 0)))
  (.seq (.block 1 (.seq (.seq (.reg [0, 1, 4, 5, 9, 19, 29, 39]
   [⟨(some 12), .mov, [.t 0], none⟩,
    ⟨(some 13), .mov, [.t 5], none⟩,
    ⟨(some 14), (.ia 3), [.t 12, .t 13], none⟩,
    ⟨(some 15), (.fa 0), [.t 14], none⟩,
    ⟨(some 16), .ld1, [.t 15], none⟩,
    ⟨(some 17), .mov, [.t 1], none⟩,
    ⟨(some 18), (.cFlt .f32), [.t 17], none⟩,
    ⟨(some 19), (.bin .neq), [.t 16, .t 18], none⟩])
  (.cond (.t 19) (.seq (.reg [0, 1, 4, 5, 9, 19, 29, 39]
   [⟨(some 4), .mov, [.c (.i .i64 (-1))], none⟩])
  .ret)
  .skip))
  (.seq (.reg [0, 1, 4, 5, 9, 19, 29, 39]
   [⟨(some 20), .mov, [.t 1], none⟩,
    ⟨(some 21), (.bin .add), [.t 20, .c (.i .i64 1)], none⟩,
    ⟨(some 1), .mov, [.t 21], none⟩])
  (.seq (.seq (.reg [0, 1, 4, 5, 9, 19, 29, 39]
   [⟨(some 22), .mov, [.t 0], none⟩,
    ⟨(some 23), .mov, [.t 5], none⟩,
    ⟨(some 24), (.ia 3), [.t 22, .t 23], none⟩,
    ⟨(some 25), (.fa 1), [.t 24], none⟩,
    ⟨(some 26), .ld1, [.t 25], none⟩,
    ⟨(some 27), .mov, [.t 1], none⟩,
    ⟨(some 28), (.cFlt .f32), [.t 27], none⟩,
    ⟨(some 29), (.bin .neq), [.t 26, .t 28], none⟩])
  (.cond (.t 29) (.seq (.reg [0, 1, 4, 5, 9, 19, 29, 39]
   [⟨(some 4), .mov, [.c (.i .i64 (-1))], none⟩])
  .ret)
  .skip))
  (.seq (.reg [0, 1, 4, 5, 9, 19, 29, 39]
   [⟨(some 30), .mov, [.t 1], none⟩,
    ⟨(some 31), (.bin .add), [.t 30, .c (.i .i64 1)], none⟩,
    ⟨(some 1), .mov, [.t 31], none⟩])
  (.seq (.seq (.reg [0, 1, 4, 5, 9, 19, 29, 39]
   [⟨(some 32), .mov, [.t 0], none⟩,
    ⟨(some 33), .mov, [.t 5], none⟩,
    ⟨(some 34), (.ia 3), [.t 32, .t 33], none⟩,
    ⟨(some 35), (.fa 2), [.t 34], none⟩,
    ⟨(some 36), .ld1, [.t 35], none⟩,
    ⟨(some 37), .mov, [.t 1], none⟩,
    ⟨(some 38), (.cFlt .f32), [.t 37], none⟩,
    ⟨(some 39), (.bin .neq), [.t 36, .t 38], none⟩])
  (.cond (.t 39) (.seq (.reg [0, 1, 4, 5, 9, 19, 29, 39]
   [⟨(some 4), .mov, [.c (.i .i64 (-1))], none⟩])
  .ret)
  .skip))
  (.reg [0, 1, 4, 5, 9, 19, 29, 39]
   [⟨(some 40), .mov, [.t 1], none⟩,
    ⟨(some 41), (.bin .add), [.t 40, .c (.i .i64 1)], none⟩,
    ⟨(some 1), .mov, [.t 41], none⟩])))))))
  (.reg [0, 1, 4, 5, 9, 19, 29, 39]
   [⟨(some 10), .mov, [.t 5], none⟩,
    ⟨(some 11), (.bin .add), [.t 10, .c (.i .i64 1)], none⟩,
    ⟨(some 5), .mov, [.t 11], none⟩]))))))
  (.seq (.reg [4]
   [⟨(some 42), .mov, [.t 1], none⟩,
    ⟨(some 4), .mov, [.t 42], none⟩])
  .ret))), [.tmp 4]⟩
theorem C57 : compF Go.Proofs.Try.prog 57 = some F57 := by kernel_rfl
/-- loop.example/g01180/laws.heldBoolS -/
def F58 : AFun := ⟨(.seq (.reg [0, 1, 4, 5, 9, 19]
   [⟨(some 4), .mov, [.c (.i .i64 0)], none⟩])
  (.seq (.seq (.reg [0, 1, 4, 5, 9, 19]
   [⟨(some 5), .mov, [.c (.i .i64 0)], none⟩])
  (.block 0 (.loop [0, 1, 4, 5] (.seq (.seq (.reg [0, 1, 4, 5, 9, 19]
   [⟨(some 6), .mov, [.t 5], none⟩,
    ⟨(some 7), .mov, [.t 0], none⟩,
    ⟨(some 8), .len, [.t 7], none⟩,
    ⟨(some 9), (.bin .lss), [.t 6, .t 8], none⟩])
  (.cond (.t 9) .skip
  (.exit 0)))
  (.seq (.block 1 (.seq (.seq (.reg [0, 1, 4, 5, 9, 19]
   [⟨(some 12), .mov, [.t 0], none⟩,
    ⟨(some 13), .mov, [.t 5], none⟩,
    ⟨(some 14), (.ia 1), [.t 12, .t 13], none⟩,
    ⟨(some 15), .ld1, [.t 14], none⟩,
    ⟨(some 16), .mov, [.t 1], none⟩,
    ⟨(some 17), (.bin .rem), [.t 16, .c (.i .i64 3)], none⟩,
    ⟨(some 18), (.bin .eql), [.t 17, .c (.i .i64 0)], none⟩,
    ⟨(some 19), (.eqB true), [.t 15, .t 18], none⟩])
  (.cond (.t 19) (.seq (.reg [0, 1, 4, 5, 9, 19]
   [⟨(some 4), .mov, [.c (.i .i64 (-1))], none⟩])
  .ret)
  .skip))
  (.reg [0, 1, 4, 5, 9, 19]
   [⟨(some 20), .mov, [.t 1], none⟩,
    ⟨(some 21), (.bin .add), [.t 20, .c (.i .i64 1)], none⟩,
    ⟨(some 1), .mov, [.t 21], none⟩])))
  (.reg [0, 1, 4, 5, 9, 19]
   [⟨(some 10), .mov, [.t 5], none⟩,
    ⟨(some 11), (.bin .add), [.t 10, .c (.i .i64 1)], none⟩,
    ⟨(some 5), .mov, [.t 11], none⟩]))))))
  (.seq (.reg [4]
   [⟨(some 22), .mov, [.t 1], none⟩,
    ⟨(some 4), .mov, [.t 22], none⟩])
  .ret))), [.tmp 4]⟩
theorem C58 : compF Go.Proofs.Try.prog 58 = some F58 := by kernel_rfl
/-- loop.example/g01180/laws.heldFloat32S -/
def F59 : AFun := ⟨(.seq (.reg [0, 1, 4, 5, 9, 18]
   [⟨(some 4), .mov, [.c (.i .i64 0)], none⟩])
  (.seq (.seq (.reg [0, 1, 4, 5, 9, 18]
   [⟨(some 5), .mov, [.c (.i .i64 0)], none⟩])
  (.block 0 (.loop [0, 1, 4, 5] (.seq (.seq (.reg [0, 1, 4, 5, 9, 18]
   [⟨(some 6), .mov, [.t 5], none⟩,
    ⟨(some 7), .mov, [.t 0], none⟩,
    ⟨(some 8), .len, [.t 7], none⟩,
    ⟨(some 9), (.bin .lss), [.t 6, .t 8], none⟩])
  (.cond (.t 9) .skip
  (.exit 0)))
  (.seq (.block 1 (.seq (.seq (.reg [0, 1, 4, 5, 9, 18]
   [⟨(some 12), .mov, [.t 0], none⟩,
    ⟨(some 13), .mov, [.t 5], none⟩,
    ⟨(some 14), (.ia 1), [.t 12, .t 13], none⟩,
    ⟨(some 15), .ld1, [.t 14], none⟩,
    ⟨(some 16), .mov, [.t 1], none⟩,
    ⟨(some 17), (.cFlt .f32), [.t 16], none⟩,
    ⟨(some 18), (.bin .neq), [.t 15, .t 17], none⟩])
  (.cond (.t 18) (.seq (.reg [0, 1, 4, 5, 9, 18]
   [⟨(some 4), .mov, [.c (.i .i64 (-1))], none⟩])
  .ret)
  .skip))
  (.reg [0, 1, 4, 5, 9, 18]
   [⟨(some 19), .mov, [.t 1], none⟩,
    ⟨(some 20), (.bin .add), [.t 19, .c (.i .i64 1)], none⟩,
    ⟨(some 1), .mov, [.t 20], none⟩])))
  (.reg [0, 1, 4, 5, 9, 18]
   [⟨(some 10), .mov, [.t 5], none⟩,
    ⟨(some 11), (.bin .add), [.t 10, .c (.i .i64 1)], none⟩,
    ⟨(some 5), .mov, [.t 11], none⟩]))))))
  (.seq (.reg [4]
   [⟨(some 21), .mov, [.t 1], none⟩,
    ⟨(some 4), .mov, [.t 21], none⟩])
  .ret))), [.tmp 4]⟩
theorem C59 : compF Go.Proofs.Try.prog 59 = some F59 := by kernel_rfl
/-- loop.example/g01180/spec.l00In -/
def F60 : AFun := ⟨(.seq (.reg [0, 1, 2, 6]
   [⟨(some 6), .mov, [.c (.b false)], none⟩])
  (.seq (.reg [6]
   [⟨(some 7), .mov, [.t 0], none⟩,
    ⟨(some 8), .mov, [.t 1], none⟩,
    ⟨(some 9), (.bin .geq), [.t 7, .t 8], none⟩,
    ⟨(some 10), .mov, [.t 9], none⟩,
    ⟨(some 11), .mov, [.t 0], (some (10, true))⟩,
    ⟨(some 12), .mov, [.t 2], (some (10, true))⟩,
    ⟨(some 13), (.bin .leq), [.t 11, .t 12], (some (10, true))⟩,
    ⟨(some 14), .pick, [.t 10, .t 13, .c (.b false)], none⟩,
    ⟨(some 6), .mov, [.t 14], none⟩])
  .ret)), [.tmp 6]⟩
theorem C60 : compF Go.Proofs.Try.prog 60 = some F60 := by kernel_rfl
/-- loop.example/g01180/spec.l08Own -/
def F61 : AFun := ⟨(.seq (.reg [0, 2, 3]
   [⟨(some 2), (.alloc [(.sl none 0 0 none), (.sl none 0 0 none), (.sl none 0 0 none), (.sl none 0 0 none), (.f .f32 0), (.f .f32 0), (.f .f32 0), (.f .f32 0), (.i .i64 0)]), [], none⟩])
  (.seq (.reg [0, 2, 3]
   [⟨(some 4), .mov, [.t 0], none⟩,
    ⟨(some 5), .nilc, [.t 4], none⟩,
    ⟨(some 6), (.ldn 9), [.t 5], none⟩,
    ⟨(some 3), (.alloc [(.sl none 0 0 none), (.sl none 0 0 none), (.sl none 0 0 none), (.sl none 0 0 none), (.f .f32 0), (.f .f32 0), (.f .f32 0), (.f .f32 0), (.i .i64 0)]), [], none⟩,
    ⟨none, (.st 9), [.t 3, .t 6], none⟩])
  (.seq (.reg [0, 2, 3]
   [⟨(some 7), (.bs 3 0 [] []), [], none⟩,
    ⟨(some 8), .mov, [.t 0], none⟩,
    ⟨(some 9), .nilc, [.t 8], none⟩,
    ⟨(some 10), (.fa 0), [.t 9], none⟩,
    ⟨(some 11), .ld1, [.t 10], none⟩,
    ⟨(some 12), (.app 3 12), [.t 7, .t 11], none⟩,
    ⟨(some 13), (.fa 0), [.t 3], none⟩,
    ⟨none, (.st 1), [.t 13, .t 12], none⟩])
  (.seq (.reg [0, 2, 3]
   [⟨(some 14), (.bs 3 0 [] []), [], none⟩,
    ⟨(some 15), .mov, [.t 0], none⟩,
    ⟨(some 16), .nilc, [.t 15], none⟩,
    ⟨(some 17), (.fa 1), [.t 16], none⟩,
    ⟨(some 18), .ld1, [.t 17], none⟩,
    ⟨(some 19), (.app 3 12), [.t 14, .t 18], none⟩,
    ⟨(some 20), (.fa 1), [.t 3], none⟩,
    ⟨none, (.st 1), [.t 20, .t 19], none⟩])
  (.seq (.reg [0, 2, 3]
   [⟨(some 21), (.bs 1 0 [] []), [], none⟩,
    ⟨(some 22), .mov, [.t 0], none⟩,
    ⟨(some 23), .nilc, [.t 22], none⟩,
    ⟨(some 24), (.fa 2), [.t 23], none⟩,
    ⟨(some 25), .ld1, [.t 24], none⟩,
    ⟨(some 26), (.app 1 1), [.t 21, .t 25], none⟩,
    ⟨(some 27), (.fa 2), [.t 3], none⟩,
    ⟨none, (.st 1), [.t 27, .t 26], none⟩])
  (.seq (.reg [2, 3]
   [⟨(some 28), (.bs 1 0 [] []), [], none⟩,
    ⟨(some 29), .mov, [.t 0], none⟩,
    ⟨(some 30), .nilc, [.t 29], none⟩,
    ⟨(some 31), (.fa 3), [.t 30], none⟩,
    ⟨(some 32), .ld1, [.t 31], none⟩,
    ⟨(some 33), (.app 1 4), [.t 28, .t 32], none⟩,
    ⟨(some 34), (.fa 3), [.t 3], none⟩,
    ⟨none, (.st 1), [.t 34, .t 33], none⟩])
  (.seq (.reg [2]
   [⟨(some 35), (.ldn 9), [.t 3], none⟩,
    ⟨none, (.st 9), [.t 2, .t 35], none⟩])
  .ret))))))), [.cells 2 9]⟩
theorem C61 : compF Go.Proofs.Try.prog 61 = some F61 := by kernel_rfl
/-- (*loop.example/g01180/spec.l00Src).pick -/
def F62 : AFun := ⟨(.seq (.reg [0, 1, 4, 5, 7, 11]
   [⟨(some 4), .mov, [.c (.i .i64 0)], none⟩])
  (.seq (.seq (.reg [0, 1, 4, 5, 7, 11]
   [⟨(some 6), .mov, [.t 1], none⟩,
    ⟨(some 7), (.bin .leq), [.t 6, .c (.i .i64 1)], none⟩])
  (.cond (.t 7) (.seq (.reg [0, 1, 4, 5, 11]
   [⟨(some 4), .mov, [.c (.i .i64 0)], none⟩])
  .ret)
  .skip))
  (.seq (.reg [0, 1, 4, 5, 11]
   [⟨(some 8), .mov, [.t 0], none⟩,
    ⟨(some 9), (.call 82), [.t 8], none⟩,
    ⟨(some 5), .mov, [.t 9], none⟩])
  (.seq (.seq (.reg [0, 1, 4, 5, 11]
   [⟨(some 10), .mov, [.t 1], none⟩,
    ⟨(some 11), (.bin .gtr), [.t 10, .c (.i .i64 200)], none⟩])
  (.cond (.t 11) (.reg [1, 4, 5]
   [⟨(some 12), .mov, [.t 5], none⟩,
    ⟨(some 13), (.bin .mul), [.t 12, .c (.i .i64 256)], none⟩,
    ⟨(some 14), .mov, [.t 0], none⟩,
    ⟨(some 15), (.call 82), [.t 14], none⟩,
    ⟨(some 16), (.bin .add), [.t 13, .t 15], none⟩,
    ⟨(some 5), .mov, [.t 16], none⟩])
  .skip))
  (.seq (.reg [4]
   [⟨(some 17), .mov, [.t 5], none⟩,
    ⟨(some 18), .mov, [.t 1], none⟩,
    ⟨(some 19), (.bin .rem), [.t 17, .t 18], none⟩,
    ⟨(some 4), .mov, [.t 19], none⟩])
  .ret))))), [.tmp 4]⟩
theorem C62 : compF Go.Proofs.Try.prog 62 = some F62 := by kernel_rfl
/-- loop.example/g01180/spec.l01DrawVector -/
def F63 : AFun := ⟨(.seq (.reg [0, 2, 3, 4, 16]
   [⟨(some 2), (.alloc [(.f .f32 0), (.f .f32 0), (.f .f32 0)]), [], none⟩])
  (.seq (.reg [0, 2, 3, 4, 16]
   [⟨(some 5), .mov, [.t 0], none⟩,
    ⟨(some 6), (.call 64), [.t 5, .c (.i .i64 10)], none⟩,
    ⟨(some 3), .mov, [.t 6], none⟩])
  (.seq (.reg [0, 2, 3, 4, 16]
   [⟨(some 7), .mov, [.t 0], none⟩,
    ⟨(some 8), (.call 34), [.t 7], none⟩,
    ⟨(some 9), (.bld [(.f .f32 0), (.f .f32 0), (.f .f32 0)] [(0, 1)]), [.t 8], none⟩,
    ⟨(some 4), (.alloc [(.f .f32 0), (.f .f32 0), (.f .f32 0)]), [], none⟩,
    ⟨none, (.st 3), [.t 4, .t 9], none⟩])
  (.seq (.reg [0, 2, 3, 4, 16]
   [⟨(some 10), .mov, [.t 0], none⟩,
    ⟨(some 11), (.call 34), [.t 10], none⟩,
    ⟨(some 12), (.fa 1), [.t 4], none⟩,
    ⟨none, (.st 1), [.t 12, .t 11], none⟩])
  (.seq (.reg [0, 2, 3, 4, 16]
   [⟨(some 13), .mov, [.t 0], none⟩,
    ⟨(some 14), (.call 34), [.t 13], none⟩,
    ⟨(some 15), (.fa 2), [.t 4], none⟩,
    ⟨none, (.st 1), [.t 15, .t 14], none⟩])
  (.seq (.seq (.reg [0, 2, 4, 16]
   [⟨(some 16), .mov, [.t 3], none⟩])
  (.cond (.t 16) (.reg [2, 4]
   [⟨(some 17), .mov, [.t 0], none⟩,
    ⟨(some 18), (.call 83), [.t 17], none⟩,
    ⟨(some 19), (.fa 1), [.t 4], none⟩,
    ⟨none, (.st 1), [.t 19, .t 18], none⟩])
  .skip))
  (.seq (.reg [2]
   [⟨(some 20), (.ldn 3), [.t 4], none⟩,
    ⟨none, (.st 3), [.t 2, .t 20], none⟩])
  .ret))))))), [.cells 2 3]⟩
theorem C63 : compF Go.Proofs.Try.prog 63 = some F63 := by kernel_rfl
/-- (*loop.example/g01180/spec.l00Src).one -/
def F64 : AFun := ⟨(.seq (.reg [0, 1, 4]
   [⟨(some 4), .mov, [.c (.b false)], none⟩])
  (.seq (.reg [4]
   [⟨(some 5), .mov, [.t 0], none⟩,
    ⟨(some 6), .mov, [.t 1], none⟩,
    ⟨(some 7), (.call 62), [.t 5, .t 6], none⟩,
    ⟨(some 8), (.bin .eql), [.t 7, .c (.i .i64 0)], none⟩,
    ⟨(some 4), .mov, [.t 8], none⟩])
  .ret)), [.tmp 4]⟩
theorem C64 : compF Go.Proofs.Try.prog 64 = some F64 := by kernel_rfl
/-- loop.example/g01180/spec.l04DrawLength -/
def F65 : AFun := ⟨(.seq (.reg [0, 2, 4]
   [⟨(some 2), .mov, [.c (.f .f32 0)], none⟩])
  (.seq (.seq (.reg [0, 2, 4]
   [⟨(some 3), .mov, [.t 0], none⟩,
    ⟨(some 4), (.call 64), [.t 3, .c (.i .i64 12)], none⟩])
  (.cond (.t 4) (.seq (.reg [0, 2]
   [⟨(some 5), .mov, [.t 0], none⟩,
    ⟨(some 6), (.call 83), [.t 5], none⟩,
    ⟨(some 2), .mov, [.t 6], none⟩])
  .ret)
  .skip))
  (.seq (.reg [2]
   [⟨(some 7), .mov, [.t 0], none⟩,
    ⟨(some 8), (.call 62), [.t 7, .c (.i .i64 24)], none⟩,
    ⟨(some 9), (.bin .add), [.c (.i .i64 1), .t 8], none⟩,
    ⟨(some 10), (.cFlt .f32), [.t 9], none⟩,
    ⟨(some 11), (.bin .quo), [.t 10, .c (.f .f32 1082130432)], none⟩,
    ⟨(some 2), .mov, [.t 11], none⟩])
  .ret))), [.tmp 2]⟩
theorem C65 : compF Go.Proofs.Try.prog 65 = some F65 := by kernel_rfl
/-- loop.example/g01180/spec.l02DrawShare -/
def F66 : AFun := ⟨(.seq (.reg [0, 2, 4]
   [⟨(some 2), .mov, [.c (.f .f32 0)], none⟩])
  (.seq (.seq (.reg [0, 2, 4]
   [⟨(some 3), .mov, [.t 0], none⟩,
    ⟨(some 4), (.call 64), [.t 3, .c (.i .i64 10)], none⟩])
  (.cond (.t 4) (.seq (.reg [0, 2]
   [⟨(some 5), .mov, [.t 0], none⟩,
    ⟨(some 6), (.call 83), [.t 5], none⟩,
    ⟨(some 2), .mov, [.t 6], none⟩])
  .ret)
  .skip))
  (.seq (.reg [2]
   [⟨(some 7), .mov, [.t 0], none⟩,
    ⟨(some 8), (.call 62), [.t 7, .c (.i .i64 17)], none⟩,
    ⟨(some 9), (.cFlt .f32), [.t 8], none⟩,
    ⟨(some 10), (.bin .quo), [.t 9, .c (.f .f32 1098907648)], none⟩,
    ⟨(some 2), .mov, [.t 10], none⟩])
  .ret))), [.tmp 2]⟩
theorem C66 : compF Go.Proofs.Try.prog 66 = some F66 := by kernel_rfl
/-- slices.Clone[[]bool,bool] -/
def F67 : AFun := ⟨(.seq (.reg [0, 2, 4]
   [⟨(some 2), .mov, [.c (.sl none 0 0 none)], none⟩])
  (.seq (.seq (.reg [0, 2, 4]
   [⟨(some 3), .mov, [.t 0], none⟩,
    ⟨(some 4), (.eqSl false), [.t 3, .c (.sl none 0 0 none)], none⟩])
  (.cond (.t 4) (.seq (.reg [0, 2]
   [⟨(some 2), .mov, [.c (.sl none 0 0 none)], none⟩])
  .ret)
  .skip))
  (.seq (.reg [2]
   [⟨(some 5), (.bs 1 0 [] []), [], none⟩,
    ⟨(some 6), .mov, [.t 0], none⟩,
    ⟨(some 7), (.app 1 1), [.t 5, .t 6], none⟩,
    ⟨(some 2), .mov, [.t 7], none⟩])
  .ret))), [.tmp 2]⟩
theorem C67 : compF Go.Proofs.Try.prog 67 = some F67 := by kernel_rfl
/-- slices.Clone[[]float32,float32] -/
def F68 : AFun := ⟨(.seq (.reg [0, 2, 4]
   [⟨(some 2), .mov, [.c (.sl none 0 0 none)], none⟩])
  (.seq (.seq (.reg [0, 2, 4]
   [⟨(some 3), .mov, [.t 0], none⟩,
    ⟨(some 4), (.eqSl false), [.t 3, .c (.sl none 0 0 none)], none⟩])
  (.cond (.t 4) (.seq (.reg [0, 2]
   [⟨(some 2), .mov, [.c (.sl none 0 0 none)], none⟩])
  .ret)
  .skip))
  (.seq (.reg [2]
   [⟨(some 5), (.bs 1 0 [] []), [], none⟩,
    ⟨(some 6), .mov, [.t 0], none⟩,
    ⟨(some 7), (.app 1 4), [.t 5, .t 6], none⟩,
    ⟨(some 2), .mov, [.t 7], none⟩])
  .ret))), [.tmp 2]⟩
theorem C68 : compF Go.Proofs.Try.prog 68 = some F68 := by kernel_rfl
/-- loop.example/g01180/impl.AddVectors -/
def F69 : AFun := ⟨(.seq (.reg [2, 3, 4]
   [⟨(some 2), .box, [.t 0], none⟩,
    ⟨(some 3), .box, [.t 1], none⟩,
    ⟨(some 4), (.alloc [(.f .f32 0), (.f .f32 0), (.f .f32 0)]), [], none⟩])
  (.seq (.reg [4]
   [⟨(some 5), (.fa 0), [.t 2], none⟩,
    ⟨(some 6), .ld1, [.t 5], none⟩,
    ⟨(some 7), (.fa 0), [.t 3], none⟩,
    ⟨(some 8), .ld1, [.t 7], none⟩,
    ⟨(some 9), (.bin .add), [.t 6, .t 8], none⟩,
    ⟨(some 10), (.fa 1), [.t 2], none⟩,
    ⟨(some 11), .ld1, [.t 10], none⟩,
    ⟨(some 12), (.fa 1), [.t 3], none⟩,
    ⟨(some 13), .ld1, [.t 12], none⟩,
    ⟨(some 14), (.bin .add), [.t 11, .t 13], none⟩,
    ⟨(some 15), (.fa 2), [.t 2], none⟩,
    ⟨(some 16), .ld1, [.t 15], none⟩,
    ⟨(some 17), (.fa 2), [.t 3], none⟩,
    ⟨(some 18), .ld1, [.t 17], none⟩,
    ⟨(some 19), (.bin .add), [.t 16, .t 18], none⟩,
    ⟨(some 20), (.bld [(.f .f32 0), (.f .f32 0), (.f .f32 0)] [(0, 1), (1, 1), (2, 1)]), [.t 9, .t 14, .t 19], none⟩,
    ⟨none, (.st 3), [.t 4, .t 20], none⟩])
  .ret)), [.cells 4 3]⟩
theorem C69 : compF Go.Proofs.Try.prog 69 = some F69 := by kernel_rfl
/-- loop.example/g01180/impl.ScaleVector -/
def F70 : AFun := ⟨(.seq (.reg [1, 2, 4]
   [⟨(some 2), .box, [.t 0], none⟩,
    ⟨(some 4), (.alloc [(.f .f32 0), (.f .f32 0), (.f .f32 0)]), [], none⟩])
  (.seq (.reg [4]
   [⟨(some 5), (.fa 0), [.t 2], none⟩,
    ⟨(some 6), .ld1, [.t 5], none⟩,
    ⟨(some 7), .mov, [.t 1], none⟩,
    ⟨(some 8), (.bin .mul), [.t 6, .t 7], none⟩,
    ⟨(some 9), (.fa 1), [.t 2], none⟩,
    ⟨(some 10), .ld1, [.t 9], none⟩,
    ⟨(some 11), .mov, [.t 1], none⟩,
    ⟨(some 12), (.bin .mul), [.t 10, .t 11], none⟩,
    ⟨(some 13), (.fa 2), [.t 2], none⟩,
    ⟨(some 14), .ld1, [.t 13], none⟩,
    ⟨(some 15), .mov, [.t 1], none⟩,
    ⟨(some 16), (.bin .mul), [.t 14, .t 15], none⟩,
    ⟨(some 17), (.bld [(.f .f32 0), (.f .f32 0), (.f .f32 0)] [(0, 1), (1, 1), (2, 1)]), [.t 8, .t 12, .t 16], none⟩,
    ⟨none, (.st 3), [.t 4, .t 17], none⟩])
  .ret)), [.cells 4 3]⟩
theorem C70 : compF Go.Proofs.Try.prog 70 = some F70 := by kernel_rfl
/-- loop.example/g01180/impl.LessVectors -/
def F71 : AFun := ⟨(.seq (.reg [2, 3, 4]
   [⟨(some 2), .box, [.t 0], none⟩,
    ⟨(some 3), .box, [.t 1], none⟩,
    ⟨(some 4), (.alloc [(.f .f32 0), (.f .f32 0), (.f .f32 0)]), [], none⟩])
  (.seq (.reg [4]
   [⟨(some 5), (.fa 0), [.t 2], none⟩,
    ⟨(some 6), .ld1, [.t 5], none⟩,
    ⟨(some 7), (.fa 0), [.t 3], none⟩,
    ⟨(some 8), .ld1, [.t 7], none⟩,
    ⟨(some 9), (.bin .sub), [.t 6, .t 8], none⟩,
    ⟨(some 10), (.fa 1), [.t 2], none⟩,
    ⟨(some 11), .ld1, [.t 10], none⟩,
    ⟨(some 12), (.fa 1), [.t 3], none⟩,
    ⟨(some 13), .ld1, [.t 12], none⟩,
    ⟨(some 14), (.bin .sub), [.t 11, .t 13], none⟩,
    ⟨(some 15), (.fa 2), [.t 2], none⟩,
    ⟨(some 16), .ld1, [.t 15], none⟩,
    ⟨(some 17), (.fa 2), [.t 3], none⟩,
    ⟨(some 18), .ld1, [.t 17], none⟩,
    ⟨(some 19), (.bin .sub), [.t 16, .t 18], none⟩,
    ⟨(some 20), (.bld [(.f .f32 0), (.f .f32 0), (.f .f32 0)] [(0, 1), (1, 1), (2, 1)]), [.t 9, .t 14, .t 19], none⟩,
    ⟨none, (.st 3), [.t 4, .t 20], none⟩])
  .ret)), [.cells 4 3]⟩
theorem C71 : compF Go.Proofs.Try.prog 71 = some F71 := by kernel_rfl
/-- (*loop.example/g01180/impl.String).pull -/
def F72 : AFun := ⟨(.seq (.drw [0, 1, 4, 5, 6, 7, 8, 9, 32, 67, 85, 103] 18 [16, 5, 4, 2, 0, 1, 3, 6, 15]
   [⟨(some 10), .mov, [.t 0], none⟩,
    ⟨(some 11), .nilc, [.t 10], none⟩,
    ⟨(some 12), (.fa 0), [.t 11], none⟩,
    ⟨(some 13), .ld1, [.t 12], none⟩,
    ⟨(some 14), .mov, [.t 1], none⟩,
    ⟨(some 15), (.ia 3), [.t 13, .t 14], none⟩,
    ⟨(some 16), (.ldn 3), [.t 15], none⟩,
    ⟨(some 17), .mov, [.t 0], none⟩,
    ⟨(some 18), .nilc, [.t 17], none⟩,
    ⟨(some 19), (.fa 0), [.t 18], none⟩,
    ⟨(some 20), .ld1, [.t 19], none⟩,
    ⟨(some 21), .mov, [.t 1], none⟩,
    ⟨(some 22), (.bin .add), [.t 21, .c (.i .i64 1)], none⟩,
    ⟨(some 23), (.ia 3), [.t 20, .t 22], none⟩,
    ⟨(some 24), (.ldn 3), [.t 23], none⟩,
    ⟨(some 4), (.alloc [(.f .f32 0), (.f .f32 0), (.f .f32 0)]), [], none⟩,
    ⟨(some 5), (.alloc [(.f .f32 0), (.f .f32 0), (.f .f32 0)]), [], none⟩,
    ⟨none, (.st 3), [.t 4, .t 16], none⟩,
    ⟨none, (.st 3), [.t 5, .t 24], none⟩])
  (.seq (.reg [0, 1, 4, 5, 6, 7, 8, 9, 32, 67, 85, 103]
   [⟨(some 25), (.ldn 3), [.t 5], none⟩,
    ⟨(some 26), (.ldn 3), [.t 4], none⟩,
    ⟨(some 27), (.call 71), [.t 25, .t 26], none⟩,
    ⟨(some 6), (.alloc [(.f .f32 0), (.f .f32 0), (.f .f32 0)]), [], none⟩,
    ⟨none, (.st 3), [.t 6, .t 27], none⟩])
  (.seq (.reg [0, 1, 4, 5, 6, 7, 8, 9, 32, 67, 85, 103]
   [⟨(some 28), (.ldn 3), [.t 6], none⟩,
    ⟨(some 29), (.call 75), [.t 28], none⟩,
    ⟨(some 7), .mov, [.t 29], none⟩])
  (.seq (.seq (.reg [0, 1, 4, 5, 6, 7, 8, 9, 32, 67, 85, 103]
   [⟨(some 30), .mov, [.t 7], none⟩,
    ⟨(some 31), (.call 84), [.t 30], none⟩,
    ⟨(some 32), .not, [.t 31], none⟩])
  (.cond (.t 32) .ret
  .skip))
  (.seq (.drw [0, 1, 4, 5, 8, 9, 67, 85, 103] 14 []
   [⟨(some 33), (.ldn 3), [.t 6], none⟩,
    ⟨(some 34), .mov, [.t 7], none⟩,
    ⟨(some 35), .mov, [.t 0], none⟩,
    ⟨(some 36), .nilc, [.t 35], none⟩,
    ⟨(some 37), (.fa 3), [.t 36], none⟩,
    ⟨(some 38), .ld1, [.t 37], none⟩,
    ⟨(some 39), .mov, [.t 1], none⟩,
    ⟨(some 40), (.ia 1), [.t 38, .t 39], none⟩,
    ⟨(some 41), .ld1, [.t 40], none⟩,
    ⟨(some 42), (.bin .sub), [.t 34, .t 41], none⟩,
    ⟨(some 43), .mov, [.t 7], none⟩,
    ⟨(some 44), (.bin .quo), [.t 42, .t 43], none⟩,
    ⟨(some 45), (.call 70), [.t 33, .t 44], none⟩,
    ⟨(some 8), (.alloc [(.f .f32 0), (.f .f32 0), (.f .f32 0)]), [], none⟩,
    ⟨none, (.st 3), [.t 8, .t 45], none⟩])
  (.block 0 (.seq (.reg [0, 1, 4, 5, 8, 9, 67, 85, 103]
   [⟨(some 68), .mov, [.t 0], none⟩,
    ⟨(some 69), .nilc, [.t 68], none⟩,
    ⟨(some 70), (.fa 2), [.t 69], none⟩,
    ⟨(some 71), .ld1, [.t 70], none⟩,
    ⟨(some 72), .mov, [.t 1], none⟩,
    ⟨(some 73), (.ia 1), [.t 71, .t 72], none⟩,
    ⟨(some 74), .ld1, [.t 73], none⟩,
    ⟨(some 75), .mov, [.t 74], none⟩,
    ⟨(some 76), .mov, [.t 0], (some (75, true))⟩,
    ⟨(some 77), .nilc, [.t 76], (some (75, true))⟩,
    ⟨(some 78), (.fa 2), [.t 77], (some (75, true))⟩,
    ⟨(some 79), .ld1, [.t 78], (some (75, true))⟩,
    ⟨(some 80), .mov, [.t 1], (some (75, true))⟩,
    ⟨(some 81), (.bin .add), [.t 80, .c (.i .i64 1)], (some (75, true))⟩,
    ⟨(some 82), (.ia 1), [.t 79, .t 81], (some (75, true))⟩,
    ⟨(some 83), .ld1, [.t 82], (some (75, true))⟩,
    ⟨(some 84), .pick, [.t 75, .t 83, .c (.b false)], none⟩,
    ⟨(some 67), .mov, [.t 84], none⟩])
  (.cond (.t 67) .skip
  (.seq (.reg [0, 1, 4, 5, 8, 9, 85, 103]
   [⟨(some 86), .mov, [.t 0], none⟩,
    ⟨(some 87), .nilc, [.t 86], none⟩,
    ⟨(some 88), (.fa 2), [.t 87], none⟩,
    ⟨(some 89), .ld1, [.t 88], none⟩,
    ⟨(some 90), .mov, [.t 1], none⟩,
    ⟨(some 91), (.ia 1), [.t 89, .t 90], none⟩,
    ⟨(some 92), .ld1, [.t 91], none⟩,
    ⟨(some 85), .mov, [.t 92], none⟩])
  (.cond (.t 85) (.drw [] 9 [7, 6]
   [⟨(some 93), .mov, [.t 0], none⟩,
    ⟨(some 94), .nilc, [.t 93], none⟩,
    ⟨(some 95), (.fa 0), [.t 94], none⟩,
    ⟨(some 96), .ld1, [.t 95], none⟩,
    ⟨(some 97), .mov, [.t 1], none⟩,
    ⟨(some 98), (.bin .add), [.t 97, .c (.i .i64 1)], none⟩,
    ⟨(some 99), (.ldn 3), [.t 5], none⟩,
    ⟨(some 100), (.ldn 3), [.t 8], none⟩,
    ⟨(some 101), (.call 71), [.t 99, .t 100], none⟩,
    ⟨(some 102), (.ia 3), [.t 96, .t 98], none⟩,
    ⟨none, (.st 3), [.t 102, .t 101], none⟩])
  (.seq (.reg [0, 1, 4, 5, 8, 9, 103]
   [⟨(some 104), .mov, [.t 0], none⟩,
    ⟨(some 105), .nilc, [.t 104], none⟩,
    ⟨(some 106), (.fa 2), [.t 105], none⟩,
    ⟨(some 107), .ld1, [.t 106], none⟩,
    ⟨(some 108), .mov, [.t 1], none⟩,
    ⟨(some 109), (.bin .add), [.t 108, .c (.i .i64 1)], none⟩,
    ⟨(some 110), (.ia 1), [.t 107, .t 109], none⟩,
    ⟨(some 111), .ld1, [.t 110], none⟩,
    ⟨(some 103), .mov, [.t 111], none⟩])
  (.cond (.t 103) (.drw [] 8 [6, 5]
   [⟨(some 112), .mov, [.t 0], none⟩,
    ⟨(some 113), .nilc, [.t 112], none⟩,
    ⟨(some 114), (.fa 0), [.t 113], none⟩,
    ⟨(some 115), .ld1, [.t 114], none⟩,
    ⟨(some 116), .mov, [.t 1], none⟩,
    ⟨(some 117), (.ldn 3), [.t 4], none⟩,
    ⟨(some 118), (.ldn 3), [.t 8], none⟩,
    ⟨(some 119), (.call 69), [.t 117, .t 118], none⟩,
    ⟨(some 120), (.ia 3), [.t 115, .t 116], none⟩,
    ⟨none, (.st 3), [.t 120, .t 119], none⟩])
  (.seq (.reg [0, 1, 4, 5, 9]
   [⟨(some 46), (.ldn 3), [.t 8], none⟩,
    ⟨(some 47), (.call 70), [.t 46, .c (.f .f32 1056964608)], none⟩,
    ⟨(some 9), (.alloc [(.f .f32 0), (.f .f32 0), (.f .f32 0)]), [], none⟩,
    ⟨none, (.st 3), [.t 9, .t 47], none⟩])
  (.drw [] 19 [3, 1, 0, 2, 4, 8, 6, 5, 7, 11, 12, 13, 16, 15, 14, 17]
   [⟨(some 48), .mov, [.t 0], none⟩,
    ⟨(some 49), .nilc, [.t 48], none⟩,
    ⟨(some 50), (.fa 0), [.t 49], none⟩,
    ⟨(some 51), .ld1, [.t 50], none⟩,
    ⟨(some 52), .mov, [.t 1], none⟩,
    ⟨(some 53), .mov, [.t 0], none⟩,
    ⟨(some 54), .nilc, [.t 53], none⟩,
    ⟨(some 55), (.fa 0), [.t 54], none⟩,
    ⟨(some 56), .ld1, [.t 55], none⟩,
    ⟨(some 57), .mov, [.t 1], none⟩,
    ⟨(some 58), (.bin .add), [.t 57, .c (.i .i64 1)], none⟩,
    ⟨(some 59), (.ldn 3), [.t 4], none⟩,
    ⟨(some 60), (.ldn 3), [.t 9], none⟩,
    ⟨(some 61), (.call 69), [.t 59, .t 60], none⟩,
    ⟨(some 62), (.ldn 3), [.t 5], none⟩,
    ⟨(some 63), (.ldn 3), [.t 9], none⟩,
    ⟨(some 64), (.call 71), [.t 62, .t 63], none⟩,
    ⟨(some 65), (.ia 3), [.t 51, .t 52], none⟩,
    ⟨none, (.st 3), [.t 65, .t 61], none⟩,
    ⟨(some 66), (.ia 3), [.t 56, .t 58], none⟩,
    ⟨none, (.st 3), [.t 66, .t 64], none⟩])))))))))))))), []⟩
theorem C72 : compF Go.Proofs.Try.prog 72 = some F72 := by kernel_rfl
/-- math.Signbit -/
def F73 : AFun := ⟨(.seq (.reg [0, 2]
   [⟨(some 2), .mov, [.c (.b false)], none⟩])
  (.seq (.reg [2]
   [⟨(some 3), .mov, [.t 0], none⟩,
    ⟨(some 4), (.call 85), [.t 3], none⟩,
    ⟨(some 5), (.cInt .i64), [.t 4], none⟩,
    ⟨(some 6), (.bin .lss), [.t 5, .c (.i .i64 0)], none⟩,
    ⟨(some 2), .mov, [.t 6], none⟩])
  .ret)), [.tmp 2]⟩
theorem C73 : compF Go.Proofs.Try.prog 73 = some F73 := by kernel_rfl
/-- math/bits.Mul -/
def F74 : AFun := ⟨(.seq (.reg [0, 1, 4, 5, 6, 7, 8, 9]
   [⟨(some 4), .mov, [.c (.i .u64 0)], none⟩,
    ⟨(some 5), .mov, [.c (.i .u64 0)], none⟩])
  (.seq (.cond (.c (.b false)) (.seq (.reg [0, 1, 4, 5, 6, 7, 8, 9]
   [⟨(some 11), .mov, [.t 0], none⟩,
    ⟨(some 12), (.cInt .u32), [.t 11], none⟩,
    ⟨(some 13), .mov, [.t 1], none⟩,
    ⟨(some 14), (.cInt .u32), [.t 13], none⟩,
    ⟨(some 15), (.call 86), [.t 12, .t 14], none⟩,
    ⟨(some 10), .mov, [.t 15], none⟩,
    ⟨(some 16), (.ext 0), [.t 10], none⟩,
    ⟨(some 17), (.ext 1), [.t 10], none⟩,
    ⟨(some 6), .mov, [.t 16], none⟩,
    ⟨(some 7), .mov, [.t 17], none⟩])
  (.seq (.reg [0, 1, 4, 5, 8, 9]
   [⟨(some 18), .mov, [.t 6], none⟩,
    ⟨(some 19), (.cInt .u64), [.t 18], none⟩,
    ⟨(some 20), .mov, [.t 7], none⟩,
    ⟨(some 21), (.cInt .u64), [.t 20], none⟩,
    ⟨(some 4), .mov, [.t 19], none⟩,
    ⟨(some 5), .mov, [.t 21], none⟩])
  .ret))
  .skip)
  (.seq (.reg [4, 5, 8, 9]
   [⟨(some 23), .mov, [.t 0], none⟩,
    ⟨(some 24), .mov, [.t 1], none⟩,
    ⟨(some 25), (.call 87), [.t 23, .t 24], none⟩,
    ⟨(some 22), .mov, [.t 25], none⟩,
    ⟨(some 26), (.ext 0), [.t 22], none⟩,
    ⟨(some 27), (.ext 1), [.t 22], none⟩,
    ⟨(some 8), .mov, [.t 26], none⟩,
    ⟨(some 9), .mov, [.t 27], none⟩])
  (.seq (.reg [4, 5]
   [⟨(some 28), .mov, [.t 8], none⟩,
    ⟨(some 29), .mov, [.t 9], none⟩,
    ⟨(some 4), .mov, [.t 28], none⟩,
    ⟨(some 5), .mov, [.t 29], none⟩])
  .ret)))), [.tmp 4, .tmp 5]⟩
theorem C74 : compF Go.Proofs.Try.prog 74 = some F74 := by kernel_rfl
/-- loop.example/g01180/impl.LongOf -/
def F75 : AFun := ⟨(.seq (.reg [1, 2]
   [⟨(some 1), .box, [.t 0], none⟩,
    ⟨(some 2), .mov, [.c (.f .f32 0)], none⟩])
  (.seq (.reg [2]
   [⟨(some 3), (.ldn 3), [.t 1], none⟩,
    ⟨(some 4), (.ldn 3), [.t 1], none⟩,
    ⟨(some 5), (.call 89), [.t 3, .t 4], none⟩,
    ⟨(some 6), (.call 88), [.t 5], none⟩,
    ⟨(some 2), .mov, [.t 6], none⟩])
  .ret)), [.tmp 2]⟩
theorem C75 : compF Go.Proofs.Try.prog 75 = some F75 := by kernel_rfl
/-- math.Abs -/
def F76 : AFun := ⟨(.seq (.reg [0, 2]
   [⟨(some 2), .mov, [.c (.f .f64 0)], none⟩])
  (.seq (.reg [2]
   [⟨(some 3), .mov, [.t 0], none⟩,
    ⟨(some 4), (.call 85), [.t 3], none⟩,
    ⟨(some 5), (.bin .andNot), [.t 4, .c (.i .u64 9223372036854775808)], none⟩,
    ⟨(some 6), (.call 90), [.t 5], none⟩,
    ⟨(some 2), .mov, [.t 6], none⟩])
  .ret)), [.tmp 2]⟩
theorem C76 : compF Go.Proofs.Try.prog 76 = some F76 := by kernel_rfl
/-- loop.example/g01180/spec.l04Points -/
def F77 : AFun := ⟨(.seq (.reg [0, 2]
   [⟨(some 2), .mov, [.c (.b false)], none⟩])
  (.seq (.reg [2]
   [⟨(some 3), .mov, [.t 0], none⟩,
    ⟨(some 4), .len, [.t 3], none⟩,
    ⟨(some 5), (.call 60), [.t 4, .c (.i .i64 2), .c (.i .i64 16)], none⟩,
    ⟨(some 2), .mov, [.t 5], none⟩])
  .ret)), [.tmp 2]⟩
theorem C77 : compF Go.Proofs.Try.prog 77 = some F77 := by kernel_rfl
/-- loop.example/g01180/spec.l01Add -/
def F78 : AFun := ⟨(.seq (.reg [2, 3, 4]
   [⟨(some 2), .box, [.t 0], none⟩,
    ⟨(some 3), .box, [.t 1], none⟩,
    ⟨(some 4), (.alloc [(.f .f32 0), (.f .f32 0), (.f .f32 0)]), [], none⟩])
  (.seq (.reg [4]
   [⟨(some 5), (.fa 0), [.t 2], none⟩,
    ⟨(some 6), .ld1, [.t 5], none⟩,
    ⟨(some 7), (.fa 0), [.t 3], none⟩,
    ⟨(some 8), .ld1, [.t 7], none⟩,
    ⟨(some 9), (.bin .add), [.t 6, .t 8], none⟩,
    ⟨(some 10), (.fa 1), [.t 2], none⟩,
    ⟨(some 11), .ld1, [.t 10], none⟩,
    ⟨(some 12), (.fa 1), [.t 3], none⟩,
    ⟨(some 13), .ld1, [.t 12], none⟩,
    ⟨(some 14), (.bin .add), [.t 11, .t 13], none⟩,
    ⟨(some 15), (.fa 2), [.t 2], none⟩,
    ⟨(some 16), .ld1, [.t 15], none⟩,
    ⟨(some 17), (.fa 2), [.t 3], none⟩,
    ⟨(some 18), .ld1, [.t 17], none⟩,
    ⟨(some 19), (.bin .add), [.t 16, .t 18], none⟩,
    ⟨(some 20), (.bld [(.f .f32 0), (.f .f32 0), (.f .f32 0)] [(0, 1), (1, 1), (2, 1)]), [.t 9, .t 14, .t 19], none⟩,
    ⟨none, (.st 3), [.t 4, .t 20], none⟩])
  .ret)), [.cells 4 3]⟩
theorem C78 : compF Go.Proofs.Try.prog 78 = some F78 := by kernel_rfl
/-- loop.example/g01180/spec.l01Scale -/
def F79 : AFun := ⟨(.seq (.reg [1, 2, 4]
   [⟨(some 2), .box, [.t 0], none⟩,
    ⟨(some 4), (.alloc [(.f .f32 0), (.f .f32 0), (.f .f32 0)]), [], none⟩])
  (.seq (.reg [4]
   [⟨(some 5), (.fa 0), [.t 2], none⟩,
    ⟨(some 6), .ld1, [.t 5], none⟩,
    ⟨(some 7), .mov, [.t 1], none⟩,
    ⟨(some 8), (.bin .mul), [.t 6, .t 7], none⟩,
    ⟨(some 9), (.fa 1), [.t 2], none⟩,
    ⟨(some 10), .ld1, [.t 9], none⟩,
    ⟨(some 11), .mov, [.t 1], none⟩,
    ⟨(some 12), (.bin .mul), [.t 10, .t 11], none⟩,
    ⟨(some 13), (.fa 2), [.t 2], none⟩,
    ⟨(some 14), .ld1, [.t 13], none⟩,
    ⟨(some 15), .mov, [.t 1], none⟩,
    ⟨(some 16), (.bin .mul), [.t 14, .t 15], none⟩,
    ⟨(some 17), (.bld [(.f .f32 0), (.f .f32 0), (.f .f32 0)] [(0, 1), (1, 1), (2, 1)]), [.t 8, .t 12, .t 16], none⟩,
    ⟨none, (.st 3), [.t 4, .t 17], none⟩])
  .ret)), [.cells 4 3]⟩
theorem C79 : compF Go.Proofs.Try.prog 79 = some F79 := by kernel_rfl
/-- loop.example/g01180/spec.l01Less -/
def F80 : AFun := ⟨(.seq (.reg [2, 3, 4]
   [⟨(some 2), .box, [.t 0], none⟩,
    ⟨(some 3), .box, [.t 1], none⟩,
    ⟨(some 4), (.alloc [(.f .f32 0), (.f .f32 0), (.f .f32 0)]), [], none⟩])
  (.seq (.reg [4]
   [⟨(some 5), (.fa 0), [.t 2], none⟩,
    ⟨(some 6), .ld1, [.t 5], none⟩,
    ⟨(some 7), (.fa 0), [.t 3], none⟩,
    ⟨(some 8), .ld1, [.t 7], none⟩,
    ⟨(some 9), (.bin .sub), [.t 6, .t 8], none⟩,
    ⟨(some 10), (.fa 1), [.t 2], none⟩,
    ⟨(some 11), .ld1, [.t 10], none⟩,
    ⟨(some 12), (.fa 1), [.t 3], none⟩,
    ⟨(some 13), .ld1, [.t 12], none⟩,
    ⟨(some 14), (.bin .sub), [.t 11, .t 13], none⟩,
    ⟨(some 15), (.fa 2), [.t 2], none⟩,
    ⟨(some 16), .ld1, [.t 15], none⟩,
    ⟨(some 17), (.fa 2), [.t 3], none⟩,
    ⟨(some 18), .ld1, [.t 17], none⟩,
    ⟨(some 19), (.bin .sub), [.t 16, .t 18], none⟩,
    ⟨(some 20), (.bld [(.f .f32 0), (.f .f32 0), (.f .f32 0)] [(0, 1), (1, 1), (2, 1)]), [.t 9, .t 14, .t 19], none⟩,
    ⟨none, (.st 3), [.t 4, .t 20], none⟩])
  .ret)), [.cells 4 3]⟩
theorem C80 : compF Go.Proofs.Try.prog 80 = some F80 := by kernel_rfl
/-- loop.example/g01180/spec.l08Pass -/
def F81 : AFun := ⟨(.seq (.reg [0, 1, 4, 5, 6, 7, 8, 54, 89, 107]
   [⟨(some 9), .mov, [.t 0], none⟩,
    ⟨(some 10), .nilc, [.t 9], none⟩,
    ⟨(some 11), (.fa 0), [.t 10], none⟩,
    ⟨(some 12), .ld1, [.t 11], none⟩,
    ⟨(some 13), .mov, [.t 1], none⟩,
    ⟨(some 14), (.ia 3), [.t 12, .t 13], none⟩,
    ⟨(some 15), (.ldn 3), [.t 14], none⟩,
    ⟨(some 4), (.alloc [(.f .f32 0), (.f .f32 0), (.f .f32 0)]), [], none⟩,
    ⟨none, (.st 3), [.t 4, .t 15], none⟩])
  (.seq (.reg [0, 1, 4, 5, 6, 7, 8, 54, 89, 107]
   [⟨(some 16), .mov, [.t 0], none⟩,
    ⟨(some 17), .nilc, [.t 16], none⟩,
    ⟨(some 18), (.fa 0), [.t 17], none⟩,
    ⟨(some 19), .ld1, [.t 18], none⟩,
    ⟨(some 20), .mov, [.t 1], none⟩,
    ⟨(some 21), (.bin .add), [.t 20, .c (.i .i64 1)], none⟩,
    ⟨(some 22), (.ia 3), [.t 19, .t 21], none⟩,
    ⟨(some 23), (.ldn 3), [.t 22], none⟩,
    ⟨(some 5), (.alloc [(.f .f32 0), (.f .f32 0), (.f .f32 0)]), [], none⟩,
    ⟨none, (.st 3), [.t 5, .t 23], none⟩])
  (.seq (.reg [0, 1, 4, 5, 6, 7, 8, 54, 89, 107]
   [⟨(some 24), (.ldn 3), [.t 5], none⟩,
    ⟨(some 25), (.ldn 3), [.t 4], none⟩,
    ⟨(some 26), (.call 80), [.t 24, .t 25], none⟩,
    ⟨(some 6), (.alloc [(.f .f32 0), (.f .f32 0), (.f .f32 0)]), [], none⟩,
    ⟨none, (.st 3), [.t 6, .t 26], none⟩])
  (.seq (.reg [0, 1, 4, 5, 6, 7, 8, 54, 89, 107]
   [⟨(some 27), (.ldn 3), [.t 6], none⟩,
    ⟨(some 28), (.call 91), [.t 27], none⟩,
    ⟨(some 7), .mov, [.t 28], none⟩])
  (.seq (.seq (.reg [0, 1, 4, 5, 6, 7, 8, 54, 89, 107]
   [⟨(some 29), .mov, [.t 7], none⟩,
    ⟨(some 30), (.bin .eql), [.t 29, .c (.f .f32 0)], none⟩,
    ⟨(some 31), .mov, [.t 30], none⟩,
    ⟨(some 32), .mov, [.t 7], (some (31, false))⟩,
    ⟨(some 33), (.call 92), [.t 32], (some (31, false))⟩,
    ⟨(some 34), .not, [.t 33], (some (31, false))⟩,
    ⟨(some 35), .pick, [.t 31, .c (.b true), .t 34], none⟩,
    ⟨(some 36), .mov, [.t 35], none⟩,
    ⟨(some 37), .mov, [.t 0], (some (36, false))⟩,
    ⟨(some 38), .nilc, [.t 37], (some (36, false))⟩,
    ⟨(some 39), (.fa 2), [.t 38], (some (36, false))⟩,
    ⟨(some 40), .ld1, [.t 39], (some (36, false))⟩,
    ⟨(some 41), .mov, [.t 1], (some (36, false))⟩,
    ⟨(some 42), (.ia 1), [.t 40, .t 41], (some (36, false))⟩,
    ⟨(some 43), .ld1, [.t 42], (some (36, false))⟩,
    ⟨(some 44), .mov, [.t 43], (some (36, false))⟩,
    ⟨(some 45), .mov, [.t 0], (some (44, true))⟩,
    ⟨(some 46), .nilc, [.t 45], (some (44, true))⟩,
    ⟨(some 47), (.fa 2), [.t 46], (some (44, true))⟩,
    ⟨(some 48), .ld1, [.t 47], (some (44, true))⟩,
    ⟨(some 49), .mov, [.t 1], (some (44, true))⟩,
    ⟨(some 50), (.bin .add), [.t 49, .c (.i .i64 1)], (some (44, true))⟩,
    ⟨(some 51), (.ia 1), [.t 48, .t 50], (some (44, true))⟩,
    ⟨(some 52), .ld1, [.t 51], (some (44, true))⟩,
    ⟨(some 53), .pick, [.t 44, .t 52, .c (.b false)], (some (36, false))⟩,
    ⟨(some 54), .pick, [.t 36, .c (.b true), .t 53], none⟩])
  (.cond (.t 54) .ret
  .skip))
  (.seq (.drw [0, 1, 4, 5, 8, 89, 107] 14 []
   [⟨(some 55), (.ldn 3), [.t 6], none⟩,
    ⟨(some 56), .mov, [.t 7], none⟩,
    ⟨(some 57), .mov, [.t 0], none⟩,
    ⟨(some 58), .nilc, [.t 57], none⟩,
    ⟨(some 59), (.fa 3), [.t 58], none⟩,
    ⟨(some 60), .ld1, [.t 59], none⟩,
    ⟨(some 61), .mov, [.t 1], none⟩,
    ⟨(some 62), (.ia 1), [.t 60, .t 61], none⟩,
    ⟨(some 63), .ld1, [.t 62], none⟩,
    ⟨(some 64), (.bin .sub), [.t 56, .t 63], none⟩,
    ⟨(some 65), .mov, [.t 7], none⟩,
    ⟨(some 66), (.bin .quo), [.t 64, .t 65], none⟩,
    ⟨(some 67), (.call 79), [.t 55, .t 66], none⟩,
    ⟨(some 8), (.alloc [(.f .f32 0), (.f .f32 0), (.f .f32 0)]), [], none⟩,
    ⟨none, (.st 3), [.t 8, .t 67], none⟩])
  (.block 0 (.seq (.reg [0, 1, 4, 5, 8, 89, 107]
   [⟨(some 90), .mov, [.t 0], none⟩,
    ⟨(some 91), .nilc, [.t 90], none⟩,
    ⟨(some 92), (.fa 2), [.t 91], none⟩,
    ⟨(some 93), .ld1, [.t 92], none⟩,
    ⟨(some 94), .mov, [.t 1], none⟩,
    ⟨(some 95), (.ia 1), [.t 93, .t 94], none⟩,
    ⟨(some 96), .ld1, [.t 95], none⟩,
    ⟨(some 89), .mov, [.t 96], none⟩])
  (.cond (.t 89) (.drw [] 9 [7, 6]
   [⟨(some 97), .mov, [.t 0], none⟩,
    ⟨(some 98), .nilc, [.t 97], none⟩,
    ⟨(some 99), (.fa 0), [.t 98], none⟩,
    ⟨(some 100), .ld1, [.t 99], none⟩,
    ⟨(some 101), .mov, [.t 1], none⟩,
    ⟨(some 102), (.bin .add), [.t 101, .c (.i .i64 1)], none⟩,
    ⟨(some 103), (.ldn 3), [.t 5], none⟩,
    ⟨(some 104), (.ldn 3), [.t 8], none⟩,
    ⟨(some 105), (.call 80), [.t 103, .t 104], none⟩,
    ⟨(some 106), (.ia 3), [.t 100, .t 102], none⟩,
    ⟨none, (.st 3), [.t 106, .t 105], none⟩])
  (.seq (.reg [0, 1, 4, 5, 8, 107]
   [⟨(some 108), .mov, [.t 0], none⟩,
    ⟨(some 109), .nilc, [.t 108], none⟩,
    ⟨(some 110), (.fa 2), [.t 109], none⟩,
    ⟨(some 111), .ld1, [.t 110], none⟩,
    ⟨(some 112), .mov, [.t 1], none⟩,
    ⟨(some 113), (.bin .add), [.t 112, .c (.i .i64 1)], none⟩,
    ⟨(some 114), (.ia 1), [.t 111, .t 113], none⟩,
    ⟨(some 115), .ld1, [.t 114], none⟩,
    ⟨(some 107), .mov, [.t 115], none⟩])
  (.cond (.t 107) (.drw [] 8 [6, 5]
   [⟨(some 116), .mov, [.t 0], none⟩,
    ⟨(some 117), .nilc, [.t 116], none⟩,
    ⟨(some 118), (.fa 0), [.t 117], none⟩,
    ⟨(some 119), .ld1, [.t 118], none⟩,
    ⟨(some 120), .mov, [.t 1], none⟩,
    ⟨(some 121), (.ldn 3), [.t 4], none⟩,
    ⟨(some 122), (.ldn 3), [.t 8], none⟩,
    ⟨(some 123), (.call 78), [.t 121, .t 122], none⟩,
    ⟨(some 124), (.ia 3), [.t 119, .t 120], none⟩,
    ⟨none, (.st 3), [.t 124, .t 123], none⟩])
  (.seq (.reg [0, 1, 4, 5, 8]
   [⟨(some 68), (.ldn 3), [.t 8], none⟩,
    ⟨(some 69), (.call 79), [.t 68, .c (.f .f32 1056964608)], none⟩,
    ⟨none, (.st 3), [.t 8, .t 69], none⟩])
  (.seq (.drw [0, 1, 5, 8] 8 [6, 5]
   [⟨(some 70), .mov, [.t 0], none⟩,
    ⟨(some 71), .nilc, [.t 70], none⟩,
    ⟨(some 72), (.fa 0), [.t 71], none⟩,
    ⟨(some 73), .ld1, [.t 72], none⟩,
    ⟨(some 74), .mov, [.t 1], none⟩,
    ⟨(some 75), (.ldn 3), [.t 4], none⟩,
    ⟨(some 76), (.ldn 3), [.t 8], none⟩,
    ⟨(some 77), (.call 78), [.t 75, .t 76], none⟩,
    ⟨(some 78), (.ia 3), [.t 73, .t 74], none⟩,
    ⟨none, (.st 3), [.t 78, .t 77], none⟩])
  (.drw [] 9 [7, 6]
   [⟨(some 79), .mov, [.t 0], none⟩,
    ⟨(some 80), .nilc, [.t 79], none⟩,
    ⟨(some 81), (.fa 0), [.t 80], none⟩,
    ⟨(some 82), .ld1, [.t 81], none⟩,
    ⟨(some 83), .mov, [.t 1], none⟩,
    ⟨(some 84), (.bin .add), [.t 83, .c (.i .i64 1)], none⟩,
    ⟨(some 85), (.ldn 3), [.t 5], none⟩,
    ⟨(some 86), (.ldn 3), [.t 8], none⟩,
    ⟨(some 87), (.call 80), [.t 85, .t 86], none⟩,
    ⟨(some 88), (.ia 3), [.t 82, .t 84], none⟩,
    ⟨none, (.st 3), [.t 88, .t 87], none⟩])))))))))))))), []⟩
theorem C81 : compF Go.Proofs.Try.prog 81 = some F81 := by kernel_rfl
/-- (*loop.example/g01180/spec.l00Src).next -/
def F82 : AFun := ⟨(.seq (.reg [0, 2, 3, 13, 53]
   [⟨(some 2), .mov, [.c (.i .i64 0)], none⟩])
  (.seq (.reg [0, 2, 3, 13, 53]
   [⟨(some 3), .mov, [.c (.i .i64 0)], none⟩])
  (.seq (.seq (.drw [0, 2, 3, 13, 53] 9 [6, 4, 5, 7]
   [⟨(some 4), .mov, [.t 0], none⟩,
    ⟨(some 5), .nilc, [.t 4], none⟩,
    ⟨(some 6), (.fa 1), [.t 5], none⟩,
    ⟨(some 7), .ld1, [.t 6], none⟩,
    ⟨(some 8), .mov, [.t 0], none⟩,
    ⟨(some 9), .nilc, [.t 8], none⟩,
    ⟨(some 10), (.fa 0), [.t 9], none⟩,
    ⟨(some 11), .ld1, [.t 10], none⟩,
    ⟨(some 12), .len, [.t 11], none⟩,
    ⟨(some 13), (.bin .lss), [.t 7, .t 12], none⟩])
  (.cond (.t 13) (.drw [0, 2, 3, 53] 8 [5, 4, 6]
   [⟨(some 14), .mov, [.t 0], none⟩,
    ⟨(some 15), .nilc, [.t 14], none⟩,
    ⟨(some 16), (.fa 0), [.t 15], none⟩,
    ⟨(some 17), .ld1, [.t 16], none⟩,
    ⟨(some 18), .mov, [.t 0], none⟩,
    ⟨(some 19), .nilc, [.t 18], none⟩,
    ⟨(some 20), (.fa 1), [.t 19], none⟩,
    ⟨(some 21), .ld1, [.t 20], none⟩,
    ⟨(some 22), (.ia 1), [.t 17, .t 21], none⟩,
    ⟨(some 23), .ld1, [.t 22], none⟩,
    ⟨(some 24), (.cInt .i64), [.t 23], none⟩,
    ⟨(some 3), .mov, [.t 24], none⟩])
  .skip))
  (.seq (.reg [0, 2, 3, 53]
   [⟨(some 25), .mov, [.t 0], none⟩,
    ⟨(some 26), .nilc, [.t 25], none⟩,
    ⟨(some 27), (.fa 1), [.t 26], none⟩,
    ⟨(some 28), .ld1, [.t 27], none⟩,
    ⟨(some 29), (.bin .add), [.t 28, .c (.i .i64 1)], none⟩,
    ⟨(some 30), .nilc, [.t 25], none⟩,
    ⟨(some 31), (.fa 1), [.t 30], none⟩,
    ⟨none, (.st 1), [.t 31, .t 29], none⟩])
  (.seq (.reg [0, 2, 3, 53]
   [⟨(some 32), .mov, [.t 0], none⟩,
    ⟨(some 33), .mov, [.t 0], none⟩,
    ⟨(some 34), .nilc, [.t 33], none⟩,
    ⟨(some 35), (.fa 2), [.t 34], none⟩,
    ⟨(some 36), .ld1, [.t 35], none⟩,
    ⟨(some 37), (.bin .mul), [.t 36, .c (.i .u64 6364136223846793005)], none⟩,
    ⟨(some 38), .mov, [.t 3], none⟩,
    ⟨(some 39), (.cInt .u64), [.t 38], none⟩,
    ⟨(some 40), (.bin .add), [.t 37, .t 39], none⟩,
    ⟨(some 41), (.bin .add), [.t 40, .c (.i .u64 1442695040888963407)], none⟩,
    ⟨(some 42), .nilc, [.t 32], none⟩,
    ⟨(some 43), (.fa 2), [.t 42], none⟩,
    ⟨none, (.st 1), [.t 43, .t 41], none⟩])
  (.seq (.seq (.drw [0, 2, 3, 53] 9 [6, 4, 5, 7]
   [⟨(some 44), .mov, [.t 0], none⟩,
    ⟨(some 45), .nilc, [.t 44], none⟩,
    ⟨(some 46), (.fa 1), [.t 45], none⟩,
    ⟨(some 47), .ld1, [.t 46], none⟩,
    ⟨(some 48), .mov, [.t 0], none⟩,
    ⟨(some 49), .nilc, [.t 48], none⟩,
    ⟨(some 50), (.fa 0), [.t 49], none⟩,
    ⟨(some 51), .ld1, [.t 50], none⟩,
    ⟨(some 52), .len, [.t 51], none⟩,
    ⟨(some 53), (.bin .leq), [.t 47, .t 52], none⟩])
  (.cond (.t 53) (.seq (.reg [0, 2]
   [⟨(some 54), .mov, [.t 3], none⟩,
    ⟨(some 2), .mov, [.t 54], none⟩])
  .ret)
  .skip))
  (.seq (.reg [2]
   [⟨(some 55), .mov, [.t 0], none⟩,
    ⟨(some 56), .nilc, [.t 55], none⟩,
    ⟨(some 57), (.fa 2), [.t 56], none⟩,
    ⟨(some 58), .ld1, [.t 57], none⟩,
    ⟨(some 59), (.bin .shr), [.t 58, .c (.i .u64 40)], none⟩,
    ⟨(some 60), (.bin .and), [.t 59, .c (.i .u64 255)], none⟩,
    ⟨(some 61), (.cInt .i64), [.t 60], none⟩,
    ⟨(some 2), .mov, [.t 61], none⟩])
  .ret))))))), [.tmp 2]⟩
theorem C82 : compF Go.Proofs.Try.prog 82 = some F82 := by kernel_rfl
/-- loop.example/g01180/spec.l01DrawFloat -/
def F83 : AFun := ⟨(.seq (.reg [0, 2, 3, 6, 10, 11, 17, 27]
   [⟨(some 2), .mov, [.c (.f .f32 0)], none⟩])
  (.seq (.seq (.reg [0, 2, 3, 6, 10, 11, 17, 27]
   [⟨(some 4), .mov, [.t 0], none⟩,
    ⟨(some 5), (.call 64), [.t 4, .c (.i .i64 12)], none⟩,
    ⟨(some 6), .not, [.t 5], none⟩])
  (.cond (.t 6) (.seq (.reg [0, 2, 3, 10, 11, 17, 27]
   [⟨(some 7), .mov, [.t 0], none⟩,
    ⟨(some 8), (.call 93), [.t 7], none⟩,
    ⟨(some 2), .mov, [.t 8], none⟩])
  .ret)
  .skip))
  (.seq (.seq (.reg [0, 2, 3, 10, 11, 17, 27]
   [⟨(some 9), .mov, [.t 0], none⟩,
    ⟨(some 10), (.call 62), [.t 9, .c (.i .i64 4)], none⟩])
  (.block 0 (.seq (.reg [0, 2, 3, 10, 11, 17, 27]
   [⟨(some 12), (.bin .eql), [.t 10, .c (.i .i64 0)], none⟩,
    ⟨(some 11), .mov, [.t 12], none⟩])
  (.cond (.t 11) (.seq (.reg [0, 2]
   [⟨(some 13), .mov, [.t 0], none⟩,
    ⟨(some 14), (.bs 1 10 [(.i .i64 0), (.i .i64 0), (.i .i64 0), (.i .i64 0), (.i .i64 0), (.i .i64 0), (.i .i64 0), (.i .i64 0), (.i .i64 0), (.i .i64 0)] [(0, 1), (1, 1), (2, 1), (3, 1), (4, 1), (5, 1), (6, 1), (7, 1), (8, 1), (9, 1)]), [.c (.i .i64 0), .c (.i .i64 2147483648), .c (.i .i64 2139095040), .c (.i .i64 4286578688), .c (.i .i64 2143289344), .c (.i .i64 1), .c (.i .i64 2139095039), .c (.i .i64 8388608), .c (.i .i64 8388607), .c (.i .i64 2147483649)], none⟩,
    ⟨(some 15), (.call 95), [.t 13, .t 14], none⟩,
    ⟨(some 16), (.call 94), [.t 15], none⟩,
    ⟨(some 2), .mov, [.t 16], none⟩])
  .ret)
  (.seq (.reg [0, 2, 3, 10, 17, 27]
   [⟨(some 18), (.bin .eql), [.t 10, .c (.i .i64 1)], none⟩,
    ⟨(some 17), .mov, [.t 18], none⟩])
  (.cond (.t 17) (.seq (.reg [0, 2, 3]
   [⟨(some 19), .mov, [.t 0], none⟩,
    ⟨(some 20), (.call 62), [.t 19, .c (.i .i64 65536)], none⟩,
    ⟨(some 21), (.bin .mul), [.t 20, .c (.i .i64 65536)], none⟩,
    ⟨(some 3), .mov, [.t 21], none⟩])
  (.seq (.reg [0, 2]
   [⟨(some 22), .mov, [.t 3], none⟩,
    ⟨(some 23), .mov, [.t 0], none⟩,
    ⟨(some 24), (.call 62), [.t 23, .c (.i .i64 65536)], none⟩,
    ⟨(some 25), (.bin .add), [.t 22, .t 24], none⟩,
    ⟨(some 26), (.call 94), [.t 25], none⟩,
    ⟨(some 2), .mov, [.t 26], none⟩])
  .ret))
  (.seq (.reg [0, 2, 27]
   [⟨(some 28), (.bin .eql), [.t 10, .c (.i .i64 2)], none⟩,
    ⟨(some 27), .mov, [.t 28], none⟩])
  (.cond (.t 27) (.seq (.reg [0, 2]
   [⟨(some 29), .mov, [.t 0], none⟩,
    ⟨(some 30), (.call 62), [.t 29, .c (.i .i64 65536)], none⟩,
    ⟨(some 31), (.bin .mul), [.t 30, .c (.i .i64 65536)], none⟩,
    ⟨(some 32), (.call 94), [.t 31], none⟩,
    ⟨(some 2), .mov, [.t 32], none⟩])
  .ret)
  .skip))))))))
  (.seq (.reg [2]
   [⟨(some 33), .mov, [.t 0], none⟩,
    ⟨(some 34), (.call 93), [.t 33], none⟩,
    ⟨(some 35), .mov, [.t 0], none⟩,
    ⟨(some 36), (.bs 1 4 [(.i .i64 0), (.i .i64 0), (.i .i64 0), (.i .i64 0)] [(0, 1), (1, 1), (2, 1), (3, 1)]), [.c (.i .i64 8388608), .c (.i .i64 2130706432), .c (.i .i64 1610612736), .c (.i .i64 536870912)], none⟩,
    ⟨(some 37), (.call 95), [.t 35, .t 36], none⟩,
    ⟨(some 38), (.call 94), [.t 37], none⟩,
    ⟨(some 39), (.bin .mul), [.t 34, .t 38], none⟩,
    ⟨(some 2), .mov, [.t 39], none⟩])
  .ret)))), [.tmp 2]⟩
theorem C83 : compF Go.Proofs.Try.prog 83 = some F83 := by kernel_rfl
/-- loop.example/g01180/impl.isLength -/
def F84 : AFun := ⟨(.seq (.reg [0, 2]
   [⟨(some 2), .mov, [.c (.b false)], none⟩])
  (.seq (.reg [2]
   [⟨(some 3), .mov, [.t 0], none⟩,
    ⟨(some 4), (.call 96), [.t 3], none⟩,
    ⟨(some 5), .mov, [.t 4], none⟩,
    ⟨(some 6), .mov, [.t 0], (some (5, true))⟩,
    ⟨(some 7), (.bin .neq), [.t 6, .c (.f .f32 0)], (some (5, true))⟩,
    ⟨(some 8), .pick, [.t 5, .t 7, .c (.b false)], none⟩,
    ⟨(some 2), .mov, [.t 8], none⟩])
  .ret)), [.tmp 2]⟩
theorem C84 : compF Go.Proofs.Try.prog 84 = some F84 := by kernel_rfl
/-- math/bits.Mul32 -/
def F86 : AFun := ⟨(.seq (.reg [0, 1, 4, 5, 6]
   [⟨(some 4), .mov, [.c (.i .u32 0)], none⟩,
    ⟨(some 5), .mov, [.c (.i .u32 0)], none⟩])
  (.seq (.reg [4, 5, 6]
   [⟨(some 7), .mov, [.t 0], none⟩,
    ⟨(some 8), (.cInt .u64), [.t 7], none⟩,
    ⟨(some 9), .mov, [.t 1], none⟩,
    ⟨(some 10), (.cInt .u64), [.t 9], none⟩,
    ⟨(some 11), (.bin .mul), [.t 8, .t 10], none⟩,
    ⟨(some 6), .mov, [.t 11], none⟩])
  (.seq (.reg [4, 5]
   [⟨(some 12), .mov, [.t 6], none⟩,
    ⟨(some 13), (.bin .shr), [.t 12, .c (.i .u64 32)], none⟩,
    ⟨(some 14), (.cInt .u32), [.t 13], none⟩,
    ⟨(some 15), .mov, [.t 6], none⟩,
    ⟨(some 16), (.cInt .u32), [.t 15], none⟩,
    ⟨(some 4), .mov, [.t 14], none⟩,
    ⟨(some 5), .mov, [.t 16], none⟩])
  .ret))), [.tmp 4, .tmp 5]⟩
theorem C86 : compF Go.Proofs.Try.prog 86 = some F86 := by kernel_rfl
/-- math/bits.Mul64 -/
def F87 : AFun := ⟨(.seq (.reg [0, 1, 4, 5, 6, 7, 8, 9, 10, 11, 12, 13]
   [⟨(some 4), .mov, [.c (.i .u64 0)], none⟩,
    ⟨(some 5), .mov, [.c (.i .u64 0)], none⟩])
  (.seq (.reg [0, 1, 4, 5, 6, 7, 8, 9, 10, 11, 12, 13]
   [⟨(some 14), .mov, [.t 0], none⟩,
    ⟨(some 15), (.bin .and), [.t 14, .c (.i .u64 4294967295)], none⟩,
    ⟨(some 6), .mov, [.t 15], none⟩])
  (.seq (.reg [0, 1, 4, 5, 6, 7, 8, 9, 10, 11, 12, 13]
   [⟨(some 16), .mov, [.t 0], none⟩,
    ⟨(some 17), (.bin .shr), [.t 16, .c (.i .u64 32)], none⟩,
    ⟨(some 7), .mov, [.t 17], none⟩])
  (.seq (.reg [0, 1, 4, 5, 6, 7, 8, 9, 10, 11, 12, 13]
   [⟨(some 18), .mov, [.t 1], none⟩,
    ⟨(some 19), (.bin .and), [.t 18, .c (.i .u64 4294967295)], none⟩,
    ⟨(some 8), .mov, [.t 19], none⟩])
  (.seq (.reg [0, 1, 4, 5, 6, 7, 8, 9, 10, 11, 12, 13]
   [⟨(some 20), .mov, [.t 1], none⟩,
    ⟨(some 21), (.bin .shr), [.t 20, .c (.i .u64 32)], none⟩,
    ⟨(some 9), .mov, [.t 21], none⟩])
  (.seq (.reg [0, 1, 4, 5, 6, 7, 8, 9, 10, 11, 12, 13]
   [⟨(some 22), .mov, [.t 6], none⟩,
    ⟨(some 23), .mov, [.t 8], none⟩,
    ⟨(some 24), (.bin .mul), [.t 22, .t 23], none⟩,
    ⟨(some 10), .mov, [.t 24], none⟩])
  (.seq (.reg [0, 1, 4, 5, 6, 7, 9, 11, 12, 13]
   [⟨(some 25), .mov, [.t 7], none⟩,
    ⟨(some 26), .mov, [.t 8], none⟩,
    ⟨(some 27), (.bin .mul), [.t 25, .t 26], none⟩,
    ⟨(some 28), .mov, [.t 10], none⟩,
    ⟨(some 29), (.bin .shr), [.t 28, .c (.i .u64 32)], none⟩,
    ⟨(some 30), (.bin .add), [.t 27, .t 29], none⟩,
    ⟨(some 11), .mov, [.t 30], none⟩])
  (.seq (.reg [0, 1, 4, 5, 6, 7, 9, 11, 12, 13]
   [⟨(some 31), .mov, [.t 11], none⟩,
    ⟨(some 32), (.bin .and), [.t 31, .c (.i .u64 4294967295)], none⟩,
    ⟨(some 12), .mov, [.t 32], none⟩])
  (.seq (.reg [0, 1, 4, 5, 6, 7, 9, 12, 13]
   [⟨(some 33), .mov, [.t 11], none⟩,
    ⟨(some 34), (.bin .shr), [.t 33, .c (.i .u64 32)], none⟩,
    ⟨(some 13), .mov, [.t 34], none⟩])
  (.seq (.reg [0, 1, 4, 5, 7, 9, 12, 13]
   [⟨(some 35), .mov, [.t 12], none⟩,
    ⟨(some 36), .mov, [.t 6], none⟩,
    ⟨(some 37), .mov, [.t 9], none⟩,
    ⟨(some 38), (.bin .mul), [.t 36, .t 37], none⟩,
    ⟨(some 39), (.bin .add), [.t 35, .t 38], none⟩,
    ⟨(some 12), .mov, [.t 39], none⟩])
  (.seq (.reg [0, 1, 4, 5]
   [⟨(some 40), .mov, [.t 7], none⟩,
    ⟨(some 41), .mov, [.t 9], none⟩,
    ⟨(some 42), (.bin .mul), [.t 40, .t 41], none⟩,
    ⟨(some 43), .mov, [.t 13], none⟩,
    ⟨(some 44), (.bin .add), [.t 42, .t 43], none⟩,
    ⟨(some 45), .mov, [.t 12], none⟩,
    ⟨(some 46), (.bin .shr), [.t 45, .c (.i .u64 32)], none⟩,
    ⟨(some 47), (.bin .add), [.t 44, .t 46], none⟩,
    ⟨(some 4), .mov, [.t 47], none⟩])
  (.seq (.reg [4, 5]
   [⟨(some 48), .mov, [.t 0], none⟩,
    ⟨(some 49), .mov, [.t 1], none⟩,
    ⟨(some 50), (.bin .mul), [.t 48, .t 49], none⟩,
    ⟨(some 5), .mov, [.t 50], none⟩])
  .ret)))))))))))), [.tmp 4, .tmp 5]⟩
theorem C87 : compF Go.Proofs.Try.prog 87 = some F87 := by kernel_rfl
/-- loop.example/g01180/impl.RootNumber -/
def F88 : AFun := ⟨(.seq (.reg [0, 2]
   [⟨(some 2), .mov, [.c (.f .f32 0)], none⟩])
  (.seq (.reg [2]
   [⟨(some 3), .mov, [.t 0], none⟩,
    ⟨(some 4), (.cFlt .f64), [.t 3], none⟩,
    ⟨(some 5), (.call 97), [.t 4], none⟩,
    ⟨(some 6), (.cFlt .f32), [.t 5], none⟩,
    ⟨(some 2), .mov, [.t 6], none⟩])
  .ret)), [.tmp 2]⟩
theorem C88 : compF Go.Proofs.Try.prog 88 = some F88 := by kernel_rfl
/-- loop.example/g01180/impl.InnerOf -/
def F89 : AFun := ⟨(.seq (.reg [2, 3, 4]
   [⟨(some 2), .box, [.t 0], none⟩,
    ⟨(some 3), .box, [.t 1], none⟩,
    ⟨(some 4), .mov, [.c (.f .f32 0)], none⟩])
  (.seq (.reg [4]
   [⟨(some 5), (.fa 0), [.t 2], none⟩,
    ⟨(some 6), .ld1, [.t 5], none⟩,
    ⟨(some 7), (.fa 0), [.t 3], none⟩,
    ⟨(some 8), .ld1, [.t 7], none⟩,
    ⟨(some 9), (.bin .mul), [.t 6, .t 8], none⟩,
    ⟨(some 10), (.fa 1), [.t 2], none⟩,
    ⟨(some 11), .ld1, [.t 10], none⟩,
    ⟨(some 12), (.fa 1), [.t 3], none⟩,
    ⟨(some 13), .ld1, [.t 12], none⟩,
    ⟨(some 14), (.bin .mul), [.t 11, .t 13], none⟩,
    ⟨(some 15), (.bin .add), [.t 9, .t 14], none⟩,
    ⟨(some 16), (.fa 2), [.t 2], none⟩,
    ⟨(some 17), .ld1, [.t 16], none⟩,
    ⟨(some 18), (.fa 2), [.t 3], none⟩,
    ⟨(some 19), .ld1, [.t 18], none⟩,
    ⟨(some 20), (.bin .mul), [.t 17, .t 19], none⟩,
    ⟨(some 21), (.bin .add), [.t 15, .t 20], none⟩,
    ⟨(some 4), .mov, [.t 21], none⟩])
  .ret)), [.tmp 4]⟩
theorem C89 : compF Go.Proofs.Try.prog 89 = some F89 := by kernel_rfl
/-- loop.example/g01180/spec.l01Long -/
def F91 : AFun := ⟨(.seq (.reg [1, 2]
   [⟨(some 1), .box, [.t 0], none⟩,
    ⟨(some 2), .mov, [.c (.f .f32 0)], none⟩])
  (.seq (.reg [2]
   [⟨(some 3), (.ldn 3), [.t 1], none⟩,
    ⟨(some 4), (.ldn 3), [.t 1], none⟩,
    ⟨(some 5), (.call 99), [.t 3, .t 4], none⟩,
    ⟨(some 6), (.call 98), [.t 5], none⟩,
    ⟨(some 2), .mov, [.t 6], none⟩])
  .ret)), [.tmp 2]⟩
theorem C91 : compF Go.Proofs.Try.prog 91 = some F91 := by kernel_rfl
/-- loop.example/g01180/spec.l01Finite -/
def F92 : AFun := ⟨(.seq (.reg [0, 2]
   [⟨(some 2), .mov, [.c (.b false)], none⟩])
  (.seq (.reg [2]
   [⟨(some 3), .mov, [.t 0], none⟩,
    ⟨(some 4), .mov, [.t 0], none⟩,
    ⟨(some 5), (.bin .sub), [.t 3, .t 4], none⟩,
    ⟨(some 6), (.bin .eql), [.t 5, .c (.f .f32 0)], none⟩,
    ⟨(some 2), .mov, [.t 6], none⟩])
  .ret)), [.tmp 2]⟩
theorem C92 : compF Go.Proofs.Try.prog 92 = some F92 := by kernel_rfl
/-- loop.example/g01180/spec.l01DrawPlain -/
def F93 : AFun := ⟨(.seq (.reg [0, 2, 3, 8]
   [⟨(some 2), .mov, [.c (.f .f32 0)], none⟩])
  (.seq (.reg [0, 2, 3, 8]
   [⟨(some 4), .mov, [.t 0], none⟩,
    ⟨(some 5), (.call 62), [.t 4, .c (.i .i64 129)], none⟩,
    ⟨(some 6), (.bin .sub), [.t 5, .c (.i .i64 64)], none⟩,
    ⟨(some 3), .mov, [.t 6], none⟩])
  (.seq (.seq (.reg [2, 3, 8]
   [⟨(some 7), .mov, [.t 0], none⟩,
    ⟨(some 8), (.call 64), [.t 7, .c (.i .i64 4)], none⟩])
  (.cond (.t 8) (.seq (.reg [2, 3]
   [⟨(some 9), .mov, [.t 3], none⟩,
    ⟨(some 10), (.cFlt .f32), [.t 9], none⟩,
    ⟨(some 11), (.bin .quo), [.t 10, .c (.f .f32 1088421888)], none⟩,
    ⟨(some 2), .mov, [.t 11], none⟩])
  .ret)
  .skip))
  (.seq (.reg [2]
   [⟨(some 12), .mov, [.t 3], none⟩,
    ⟨(some 13), (.cFlt .f32), [.t 12], none⟩,
    ⟨(some 14), (.bin .quo), [.t 13, .c (.f .f32 1098907648)], none⟩,
    ⟨(some 2), .mov, [.t 14], none⟩])
  .ret)))), [.tmp 2]⟩
theorem C93 : compF Go.Proofs.Try.prog 93 = some F93 := by kernel_rfl
/-- loop.example/g01180/spec.l01From -/
def F94 : AFun := ⟨(.seq (.reg [0, 2]
   [⟨(some 2), .mov, [.c (.f .f32 0)], none⟩])
  (.seq (.reg [2]
   [⟨(some 3), .mov, [.t 0], none⟩,
    ⟨(some 4), (.cInt .u32), [.t 3], none⟩,
    ⟨(some 5), (.call 100), [.t 4], none⟩,
    ⟨(some 2), .mov, [.t 5], none⟩])
  .ret)), [.tmp 2]⟩
theorem C94 : compF Go.Proofs.Try.prog 94 = some F94 := by kernel_rfl
/-- (*loop.example/g01180/spec.l00Src).among -/
def F95 : AFun := ⟨(.seq (.reg [0, 1, 4]
   [⟨(some 4), .mov, [.c (.i .i64 0)], none⟩])
  (.seq (.reg [4]
   [⟨(some 5), .mov, [.t 1], none⟩,
    ⟨(some 6), .mov, [.t 0], none⟩,
    ⟨(some 7), .mov, [.t 1], none⟩,
    ⟨(some 8), .len, [.t 7], none⟩,
    ⟨(some 9), (.call 62), [.t 6, .t 8], none⟩,
    ⟨(some 10), (.ia 1), [.t 5, .t 9], none⟩,
    ⟨(some 11), .ld1, [.t 10], none⟩,
    ⟨(some 4), .mov, [.t 11], none⟩])
  .ret)), [.tmp 4]⟩
theorem C95 : compF Go.Proofs.Try.prog 95 = some F95 := by kernel_rfl
/-- loop.example/g01180/impl.IsFinite -/
def F96 : AFun := ⟨(.seq (.reg [0, 2]
   [⟨(some 2), .mov, [.c (.b false)], none⟩])
  (.seq (.reg [2]
   [⟨(some 3), .mov, [.t 0], none⟩,
    ⟨(some 4), .mov, [.t 0], none⟩,
    ⟨(some 5), (.bin .sub), [.t 3, .t 4], none⟩,
    ⟨(some 6), (.bin .eql), [.t 5, .c (.f .f32 0)], none⟩,
    ⟨(some 2), .mov, [.t 6], none⟩])
  .ret)), [.tmp 2]⟩
theorem C96 : compF Go.Proofs.Try.prog 96 = some F96 := by kernel_rfl
/-- math.Sqrt -/
def F97 : AFun := ⟨(.seq (.reg [0, 2]
   [⟨(some 2), .mov, [.c (.f .f64 0)], none⟩])
  (.seq (.reg [2]
   [⟨(some 3), .mov, [.t 0], none⟩,
    ⟨(some 4), (.call 101), [.t 3], none⟩,
    ⟨(some 2), .mov, [.t 4], none⟩])
  .ret)), [.tmp 2]⟩
theorem C97 : compF Go.Proofs.Try.prog 97 = some F97 := by kernel_rfl
/-- loop.example/g01180/spec.l01Sqrt -/
def F98 : AFun := ⟨(.seq (.reg [0, 2]
   [⟨(some 2), .mov, [.c (.f .f32 0)], none⟩])
  (.seq (.reg [2]
   [⟨(some 3), .mov, [.t 0], none⟩,
    ⟨(some 4), (.cFlt .f64), [.t 3], none⟩,
    ⟨(some 5), (.call 97), [.t 4], none⟩,
    ⟨(some 6), (.call 102), [.t 5], none⟩,
    ⟨(some 2), .mov, [.t 6], none⟩])
  .ret)), [.tmp 2]⟩
theorem C98 : compF Go.Proofs.Try.prog 98 = some F98 := by kernel_rfl
/-- loop.example/g01180/spec.l01Inner -/
def F99 : AFun := ⟨(.seq (.reg [2, 3, 4]
   [⟨(some 2), .box, [.t 0], none⟩,
    ⟨(some 3), .box, [.t 1], none⟩,
    ⟨(some 4), .mov, [.c (.f .f32 0)], none⟩])
  (.seq (.reg [4]
   [⟨(some 5), (.fa 0), [.t 2], none⟩,
    ⟨(some 6), .ld1, [.t 5], none⟩,
    ⟨(some 7), (.fa 0), [.t 3], none⟩,
    ⟨(some 8), .ld1, [.t 7], none⟩,
    ⟨(some 9), (.bin .mul), [.t 6, .t 8], none⟩,
    ⟨(some 10), (.fa 1), [.t 2], none⟩,
    ⟨(some 11), .ld1, [.t 10], none⟩,
    ⟨(some 12), (.fa 1), [.t 3], none⟩,
    ⟨(some 13), .ld1, [.t 12], none⟩,
    ⟨(some 14), (.bin .mul), [.t 11, .t 13], none⟩,
    ⟨(some 15), (.bin .add), [.t 9, .t 14], none⟩,
    ⟨(some 16), (.fa 2), [.t 2], none⟩,
    ⟨(some 17), .ld1, [.t 16], none⟩,
    ⟨(some 18), (.fa 2), [.t 3], none⟩,
    ⟨(some 19), .ld1, [.t 18], none⟩,
    ⟨(some 20), (.bin .mul), [.t 17, .t 19], none⟩,
    ⟨(some 21), (.bin .add), [.t 15, .t 20], none⟩,
    ⟨(some 4), .mov, [.t 21], none⟩])
  .ret)), [.tmp 4]⟩
theorem C99 : compF Go.Proofs.Try.prog 99 = some F99 := by kernel_rfl
/-- loop.example/g01180/spec.l01Narrow -/
def F102 : AFun := ⟨(.seq (.reg [0, 2]
   [⟨(some 2), .mov, [.c (.f .f32 0)], none⟩])
  (.seq (.reg [2]
   [⟨(some 3), .mov, [.t 0], none⟩,
    ⟨(some 4), (.cFlt .f32), [.t 3], none⟩,
    ⟨(some 2), .mov, [.t 4], none⟩])
  .ret)), [.tmp 2]⟩
theorem C102 : compF Go.Proofs.Try.prog 102 = some F102 := by kernel_rfl
end Go.V.Try
