/- OWN TEXT: see NOTES.md. -/
import Derived.Test.YtmeppjgkmbdmfaaA2
set_option linter.all false
namespace Go.Av
/-- 35 pandect/pandectlaw19.PatchLists -/
def r_pandectlaw19_PatchLists_0 : List AOper := [⟨(some 57), .mov (.tmp 7), none⟩,
        ⟨(some 58), .mov (.tmp 57), none⟩,
        ⟨(some 59), .mov (.tmp 10), (some (58, true))⟩,
        ⟨(some 60), .bin .eql (.tmp 59) (.const (.int .i64 1)), (some (58, true))⟩,
        ⟨(some 61), .pick (.tmp 58) (.tmp 60) (.const (.bool false)), none⟩,
        ⟨(some 62), .mov (.tmp 61), none⟩,
        ⟨(some 63), .load true 1 (.tmp 3), (some (62, true))⟩,
        ⟨(some 64), .call 47 [(.tmp 63)], (some (62, true))⟩,
        ⟨(some 65), .un .not (.tmp 64), (some (62, true))⟩,
        ⟨(some 66), .pick (.tmp 62) (.tmp 65) (.const (.bool false)), none⟩,
        ⟨(some 6), .mov (.tmp 66), none⟩]
def r_pandectlaw19_PatchLists_1 : List AOper := [⟨(some 95), .mov (.tmp 7), none⟩,
      ⟨(some 96), .mov (.tmp 95), none⟩,
      ⟨(some 97), .mov (.tmp 13), (some (96, true))⟩,
      ⟨(some 98), .bin .eql (.tmp 97) (.const (.int .i64 0)), (some (96, true))⟩,
      ⟨(some 99), .pick (.tmp 96) (.tmp 98) (.const (.bool false)), none⟩,
      ⟨(some 100), .mov (.tmp 99), none⟩,
      ⟨(some 101), .mov (.tmp 12), (some (100, true))⟩,
      ⟨(some 102), .bin .eql (.tmp 101) (.const (.int .i64 (-1))), (some (100, true))⟩,
      ⟨(some 103), .pick (.tmp 100) (.tmp 102) (.const (.bool false)), none⟩,
      ⟨(some 104), .mov (.tmp 103), none⟩,
      ⟨(some 105), .mov (.tmp 15), (some (104, true))⟩,
      ⟨(some 106), .mov (.tmp 10), (some (104, true))⟩,
      ⟨(some 107), .bin .eql (.tmp 105) (.tmp 106), (some (104, true))⟩,
      ⟨(some 108), .pick (.tmp 104) (.tmp 107) (.const (.bool false)), none⟩,
      ⟨(some 109), .mov (.tmp 108), none⟩,
      ⟨(some 110), .mov (.tmp 17), (some (109, true))⟩,
      ⟨(some 111), .mov (.tmp 9), (some (109, true))⟩,
      ⟨(some 112), .bin .eql (.tmp 110) (.tmp 111), (some (109, true))⟩,
      ⟨(some 113), .pick (.tmp 109) (.tmp 112) (.const (.bool false)), none⟩,
      ⟨(some 114), .mov (.tmp 113), none⟩,
      ⟨(some 115), .mov (.tmp 18), (some (114, true))⟩,
      ⟨(some 116), .mov (.tmp 10), (some (114, true))⟩,
      ⟨(some 117), .bin .eql (.tmp 115) (.tmp 116), (some (114, true))⟩,
      ⟨(some 118), .pick (.tmp 114) (.tmp 117) (.const (.bool false)), none⟩,
      ⟨(some 6), .mov (.tmp 118), none⟩]
def r_pandectlaw19_PatchLists_2 : List AOper := [⟨(some 143), .mov (.tmp 7), none⟩,
    ⟨(some 144), .mov (.tmp 143), none⟩,
    ⟨(some 145), .mov (.tmp 9), (some (144, true))⟩,
    ⟨(some 146), .bin .eql (.tmp 145) (.const (.int .i64 (-1))), (some (144, true))⟩,
    ⟨(some 147), .pick (.tmp 144) (.tmp 146) (.const (.bool false)), none⟩,
    ⟨(some 148), .mov (.tmp 147), none⟩,
    ⟨(some 149), .mov (.tmp 22), (some (148, true))⟩,
    ⟨(some 150), .bin .eql (.tmp 149) (.const (.int .i64 0)), (some (148, true))⟩,
    ⟨(some 151), .pick (.tmp 148) (.tmp 150) (.const (.bool false)), none⟩,
    ⟨(some 152), .mov (.tmp 151), none⟩,
    ⟨(some 153), .mov (.tmp 25), (some (152, true))⟩,
    ⟨(some 154), .bin .eql (.tmp 153) (.const (.int .i64 0)), (some (152, true))⟩,
    ⟨(some 155), .pick (.tmp 152) (.tmp 154) (.const (.bool false)), none⟩,
    ⟨(some 156), .mov (.tmp 155), none⟩,
    ⟨(some 157), .mov (.tmp 24), (some (156, true))⟩,
    ⟨(some 158), .bin .eql (.tmp 157) (.const (.int .i64 (-1))), (some (156, true))⟩,
    ⟨(some 159), .pick (.tmp 156) (.tmp 158) (.const (.bool false)), none⟩,
    ⟨(some 160), .mov (.tmp 159), none⟩,
    ⟨(some 161), .load true 1 (.tmp 23), (some (160, true))⟩,
    ⟨(some 162), .load true 1 (.tmp 8), (some (160, true))⟩,
    ⟨(some 163), .call 53 [(.tmp 161), (.tmp 162)], (some (160, true))⟩,
    ⟨(some 164), .pick (.tmp 160) (.tmp 163) (.const (.bool false)), none⟩,
    ⟨(some 6), .mov (.tmp 164), none⟩]
def b_pandectlaw19_PatchLists : ACode := (.seq (.region [⟨(some 3), .box (.tmp 0), none⟩,
    ⟨(some 6), .mov (.const (.bool false)), none⟩])
  (.seq (.region [⟨(some 26), .call 43 [], none⟩,
    ⟨(some 7), .mov (.tmp 26), none⟩])
  (.seq (.seq (.region [⟨(some 27), .load true 1 (.tmp 3), none⟩,
    ⟨(some 28), .mov (.tmp 1), none⟩,
    ⟨(some 29), .call 44 [(.tmp 27), (.tmp 28)], none⟩,
    ⟨(some 30), .un .not (.tmp 29), none⟩])
  (.cond (.tmp 30)
    (.seq (.region [⟨(some 31), .mov (.tmp 7), none⟩,
      ⟨(some 6), .mov (.tmp 31), none⟩])
    .ret)
    .skip))
  (.seq (.region [⟨(some 33), .load true 1 (.tmp 3), none⟩,
    ⟨(some 34), .mov (.tmp 1), none⟩,
    ⟨(some 35), .call 54 [(.tmp 33), (.tmp 34)], none⟩,
    ⟨(some 32), .mov (.tmp 35), none⟩,
    ⟨(some 36), .ext 0 (.tmp 32), none⟩,
    ⟨(some 37), .ext 1 (.tmp 32), none⟩,
    ⟨(some 38), .ext 2 (.tmp 32), none⟩,
    ⟨(some 8), .alloc [(.slice none 0 0)], none⟩,
    ⟨none, .store 1 (.tmp 8) (.tmp 36), none⟩,
    ⟨(some 9), .mov (.tmp 37), none⟩,
    ⟨(some 10), .mov (.tmp 38), none⟩])
  (.seq (.seq (.region [⟨(some 39), .mov (.tmp 10), none⟩,
    ⟨(some 40), .bin .neq (.tmp 39) (.const (.int .i64 0)), none⟩])
  (.cond (.tmp 40)
    (.seq (.seq (.region [⟨(some 41), .mov (.tmp 9), none⟩,
      ⟨(some 42), .bin .lss (.tmp 41) (.const (.int .i64 (-1))), none⟩,
      ⟨(some 43), .mov (.tmp 42), none⟩,
      ⟨(some 44), .mov (.tmp 9), (some (43, false))⟩,
      ⟨(some 45), .mov (.tmp 1), (some (43, false))⟩,
      ⟨(some 46), .len (.tmp 45), (some (43, false))⟩,
      ⟨(some 47), .bin .geq (.tmp 44) (.tmp 46), (some (43, false))⟩,
      ⟨(some 48), .pick (.tmp 43) (.const (.bool true)) (.tmp 47), none⟩,
      ⟨(some 49), .mov (.tmp 48), none⟩,
      ⟨(some 50), .faddr 0 (.tmp 8), (some (49, false))⟩,
      ⟨(some 51), .load false 1 (.tmp 50), (some (49, false))⟩,
      ⟨(some 52), .len (.tmp 51), (some (49, false))⟩,
      ⟨(some 53), .bin .gtr (.tmp 52) (.const (.int .i64 0)), (some (49, false))⟩,
      ⟨(some 54), .pick (.tmp 49) (.const (.bool true)) (.tmp 53), none⟩])
    (.cond (.tmp 54)
      (.seq (.region [⟨(some 6), .mov (.const (.bool false)), none⟩])
      .ret)
      .skip))
    (.seq (.seq (.region [⟨(some 55), .mov (.tmp 9), none⟩,
      ⟨(some 56), .bin .eql (.tmp 55) (.const (.int .i64 (-1))), none⟩])
    (.cond (.tmp 56)
      (.seq (.region r_pandectlaw19_PatchLists_0)
      .ret)
      .skip))
    (.seq (.draw [⟨(some 68), .load true 1 (.tmp 3), none⟩,
      ⟨(some 69), .mov (.tmp 1), none⟩,
      ⟨(some 70), .mov (.tmp 9), none⟩,
      ⟨(some 71), .slc 15 (.tmp 69) none (some (.tmp 70)) none, none⟩,
      ⟨(some 72), .call 54 [(.tmp 68), (.tmp 71)], none⟩,
      ⟨(some 67), .mov (.tmp 72), none⟩,
      ⟨(some 73), .ext 0 (.tmp 67), none⟩,
      ⟨(some 74), .ext 1 (.tmp 67), none⟩,
      ⟨(some 75), .ext 2 (.tmp 67), none⟩,
      ⟨(some 11), .alloc [(.slice none 0 0)], none⟩,
      ⟨none, .store 1 (.tmp 11) (.tmp 73), none⟩,
      ⟨(some 12), .mov (.tmp 74), none⟩,
      ⟨(some 13), .mov (.tmp 75), none⟩] [[], [], [], [2, 1], [1, 2, 3, 0], [0, 3, 2, 1, 4], [4, 1, 2, 3, 0, 5], [4, 1, 2, 3, 0, 5], [4, 1, 2, 3, 0, 5], [], [5, 3, 2, 1, 0, 4, 6, 9], [9, 6, 5, 4, 3, 2, 1, 0, 10, 7], [10, 9, 7, 6, 5, 4, 3, 2, 1, 0, 11, 8]])
    (.seq (.draw [⟨(some 77), .load true 1 (.tmp 11), none⟩,
      ⟨(some 78), .mov (.tmp 1), none⟩,
      ⟨(some 79), .mov (.tmp 9), none⟩,
      ⟨(some 80), .iaddr 15 (.tmp 78) (.tmp 79), none⟩,
      ⟨(some 81), .load true 15 (.tmp 80), none⟩,
      ⟨(some 82), .call 46 [(.tmp 77), (.tmp 81)], none⟩,
      ⟨(some 76), .mov (.tmp 82), none⟩,
      ⟨(some 83), .ext 0 (.tmp 76), none⟩,
      ⟨(some 84), .ext 1 (.tmp 76), none⟩,
      ⟨(some 14), .alloc [(.slice none 0 0)], none⟩,
      ⟨none, .store 1 (.tmp 14) (.tmp 83), none⟩,
      ⟨(some 15), .mov (.tmp 84), none⟩] [[], [], [], [2, 1], [1, 2, 3], [3, 2, 1, 4, 0], [0, 4, 1, 2, 3, 5], [5, 3, 2, 1, 4, 0, 6], [5, 3, 2, 1, 4, 0, 6], [], [6, 4, 3, 2, 1, 0, 5, 7, 9], [9, 7, 6, 5, 4, 3, 2, 1, 0, 10, 8]])
    (.seq (.draw [⟨(some 86), .load true 1 (.tmp 3), none⟩,
      ⟨(some 87), .mov (.tmp 1), none⟩,
      ⟨(some 88), .mov (.tmp 9), none⟩,
      ⟨(some 89), .bin .add (.tmp 88) (.const (.int .i64 1)), none⟩,
      ⟨(some 90), .slc 15 (.tmp 87) none (some (.tmp 89)) none, none⟩,
      ⟨(some 91), .call 54 [(.tmp 86), (.tmp 90)], none⟩,
      ⟨(some 85), .mov (.tmp 91), none⟩,
      ⟨(some 92), .ext 0 (.tmp 85), none⟩,
      ⟨(some 93), .ext 1 (.tmp 85), none⟩,
      ⟨(some 94), .ext 2 (.tmp 85), none⟩,
      ⟨(some 16), .alloc [(.slice none 0 0)], none⟩,
      ⟨none, .store 1 (.tmp 16) (.tmp 92), none⟩,
      ⟨(some 17), .mov (.tmp 93), none⟩,
      ⟨(some 18), .mov (.tmp 94), none⟩] [[], [], [], [2], [2, 3, 1], [1, 3, 2, 4, 0], [0, 4, 2, 3, 1, 5], [5, 1, 3, 2, 4, 0, 6], [5, 1, 3, 2, 4, 0, 6], [5, 1, 3, 2, 4, 0, 6], [], [6, 4, 3, 2, 1, 0, 5, 7, 10], [10, 7, 6, 5, 4, 3, 2, 1, 0, 11, 8], [11, 10, 8, 7, 6, 5, 4, 3, 2, 1, 0, 12, 9]])
    (.seq (.region r_pandectlaw19_PatchLists_1)
    .ret))))))
    .skip))
  (.seq (.region [⟨(some 119), .mov (.tmp 2), none⟩,
    ⟨(some 120), .convi .i64 (.tmp 119), none⟩,
    ⟨(some 121), .mov (.tmp 1), none⟩,
    ⟨(some 122), .len (.tmp 121), none⟩,
    ⟨(some 123), .bin .add (.tmp 122) (.const (.int .i64 1)), none⟩,
    ⟨(some 124), .bin .rem (.tmp 120) (.tmp 123), none⟩,
    ⟨(some 19), .mov (.tmp 124), none⟩])
  (.seq (.draw [⟨(some 126), .load true 1 (.tmp 3), none⟩,
    ⟨(some 127), .mov (.tmp 1), none⟩,
    ⟨(some 128), .mov (.tmp 19), none⟩,
    ⟨(some 129), .slc 15 (.tmp 127) none (some (.tmp 128)) none, none⟩,
    ⟨(some 130), .call 54 [(.tmp 126), (.tmp 129)], none⟩,
    ⟨(some 125), .mov (.tmp 130), none⟩,
    ⟨(some 131), .ext 0 (.tmp 125), none⟩,
    ⟨(some 132), .ext 1 (.tmp 125), none⟩,
    ⟨(some 133), .ext 2 (.tmp 125), none⟩,
    ⟨(some 20), .alloc [(.slice none 0 0)], none⟩,
    ⟨none, .store 1 (.tmp 20) (.tmp 131), none⟩,
    ⟨(some 21), .mov (.tmp 132), none⟩,
    ⟨(some 22), .mov (.tmp 133), none⟩] [[], [], [], [2, 1], [1, 2, 3, 0], [0, 3, 2, 1, 4], [4, 1, 2, 3, 0, 5], [4, 1, 2, 3, 0, 5], [4, 1, 2, 3, 0, 5], [], [5, 3, 2, 1, 0, 4, 6, 9], [9, 6, 5, 4, 3, 2, 1, 0, 10, 7], [10, 9, 7, 6, 5, 4, 3, 2, 1, 0, 11, 8]])
  (.seq (.draw [⟨(some 135), .load true 1 (.tmp 20), none⟩,
    ⟨(some 136), .mov (.tmp 1), none⟩,
    ⟨(some 137), .mov (.tmp 19), none⟩,
    ⟨(some 138), .slc 15 (.tmp 136) (some (.tmp 137)) none none, none⟩,
    ⟨(some 139), .call 54 [(.tmp 135), (.tmp 138)], none⟩,
    ⟨(some 134), .mov (.tmp 139), none⟩,
    ⟨(some 140), .ext 0 (.tmp 134), none⟩,
    ⟨(some 141), .ext 1 (.tmp 134), none⟩,
    ⟨(some 142), .ext 2 (.tmp 134), none⟩,
    ⟨(some 23), .alloc [(.slice none 0 0)], none⟩,
    ⟨none, .store 1 (.tmp 23) (.tmp 140), none⟩,
    ⟨(some 24), .mov (.tmp 141), none⟩,
    ⟨(some 25), .mov (.tmp 142), none⟩] [[], [], [], [2, 1], [1, 2, 3, 0], [0, 3, 2, 1, 4], [4, 1, 2, 3, 0, 5], [4, 1, 2, 3, 0, 5], [4, 1, 2, 3, 0, 5], [], [5, 3, 2, 1, 0, 4, 6, 9], [9, 6, 5, 4, 3, 2, 1, 0, 10, 7], [10, 9, 7, 6, 5, 4, 3, 2, 1, 0, 11, 8]])
  (.seq (.region r_pandectlaw19_PatchLists_2)
  .ret)))))))))
def c_pandectlaw19_PatchLists : AFun := ⟨165, b_pandectlaw19_PatchLists, [(6, none)]⟩
/-- 43 pandect/pandectlaw19.head -/
def r_pandectlaw19_head_0 : List AOper := [⟨(some 55), .mov (.tmp 3), none⟩,
    ⟨(some 56), .bin .eql (.tmp 55) (.const (.int .i64 0)), none⟩,
    ⟨(some 57), .mov (.tmp 56), none⟩,
    ⟨(some 58), .load true 1 (.tmp 2), (some (57, true))⟩,
    ⟨(some 59), .call 51 [(.tmp 58)], (some (57, true))⟩,
    ⟨(some 60), .bsl 1 [(.const (.string ⟨#[112, 49]⟩)), (.const (.string ⟨#[100, 49]⟩)), (.const (.string ⟨#[112, 50]⟩)), (.const (.string ⟨#[112, 51]⟩))], (some (57, true))⟩,
    ⟨(some 61), .call 50 [(.tmp 59), (.tmp 60)], (some (57, true))⟩,
    ⟨(some 62), .pick (.tmp 57) (.tmp 61) (.const (.bool false)), none⟩,
    ⟨(some 63), .mov (.tmp 62), none⟩,
    ⟨(some 64), .mov (.tmp 5), (some (63, true))⟩,
    ⟨(some 65), .bin .eql (.tmp 64) (.const (.int .i64 0)), (some (63, true))⟩,
    ⟨(some 66), .pick (.tmp 63) (.tmp 65) (.const (.bool false)), none⟩,
    ⟨(some 67), .mov (.tmp 66), none⟩,
    ⟨(some 68), .load true 1 (.tmp 4), (some (67, true))⟩,
    ⟨(some 69), .call 51 [(.tmp 68)], (some (67, true))⟩,
    ⟨(some 70), .bsl 1 [(.const (.string ⟨#[112, 51]⟩)), (.const (.string ⟨#[100, 49]⟩)), (.const (.string ⟨#[112, 49]⟩)), (.const (.string ⟨#[112, 50]⟩))], (some (67, true))⟩,
    ⟨(some 71), .call 50 [(.tmp 69), (.tmp 70)], (some (67, true))⟩,
    ⟨(some 72), .pick (.tmp 67) (.tmp 71) (.const (.bool false)), none⟩,
    ⟨(some 73), .mov (.tmp 72), none⟩,
    ⟨(some 74), .mov (.tmp 7), (some (73, true))⟩,
    ⟨(some 75), .bin .eql (.tmp 74) (.const (.int .i64 14)), (some (73, true))⟩,
    ⟨(some 76), .pick (.tmp 73) (.tmp 75) (.const (.bool false)), none⟩,
    ⟨(some 15), .mov (.tmp 76), none⟩]
def r_pandectlaw19_head_1 : List AOper := [⟨(some 77), .mov (.tmp 15), none⟩,
    ⟨(some 78), .mov (.tmp 77), none⟩,
    ⟨(some 79), .mov (.tmp 10), (some (78, true))⟩,
    ⟨(some 80), .bin .eql (.tmp 79) (.const (.int .i64 0)), (some (78, true))⟩,
    ⟨(some 81), .pick (.tmp 78) (.tmp 80) (.const (.bool false)), none⟩,
    ⟨(some 82), .mov (.tmp 81), none⟩,
    ⟨(some 83), .load true 1 (.tmp 9), (some (82, true))⟩,
    ⟨(some 84), .call 51 [(.tmp 83)], (some (82, true))⟩,
    ⟨(some 85), .bsl 1 [(.const (.string ⟨#[100, 49]⟩)), (.const (.string ⟨#[112, 49]⟩)), (.const (.string ⟨#[112, 52]⟩)), (.const (.string ⟨#[112, 50]⟩)), (.const (.string ⟨#[112, 51]⟩))], (some (82, true))⟩,
    ⟨(some 86), .call 50 [(.tmp 84), (.tmp 85)], (some (82, true))⟩,
    ⟨(some 87), .pick (.tmp 82) (.tmp 86) (.const (.bool false)), none⟩,
    ⟨(some 88), .mov (.tmp 87), none⟩,
    ⟨(some 89), .mov (.tmp 12), (some (88, true))⟩,
    ⟨(some 90), .bin .eql (.tmp 89) (.const (.int .i64 15)), (some (88, true))⟩,
    ⟨(some 91), .pick (.tmp 88) (.tmp 90) (.const (.bool false)), none⟩,
    ⟨(some 92), .mov (.tmp 91), none⟩,
    ⟨(some 93), .mov (.tmp 14), (some (92, true))⟩,
    ⟨(some 94), .bin .eql (.tmp 93) (.const (.int .i64 11)), (some (92, true))⟩,
    ⟨(some 95), .pick (.tmp 92) (.tmp 94) (.const (.bool false)), none⟩,
    ⟨(some 0), .mov (.tmp 95), none⟩]
def b_pandectlaw19_head : ACode := (.seq (.region [⟨(some 0), .mov (.const (.bool false)), none⟩])
  (.seq (.region [⟨(some 16), .call 65 [], none⟩,
    ⟨(some 1), .alloc [(.slice none 0 0)], none⟩,
    ⟨none, .store 1 (.tmp 1) (.tmp 16), none⟩])
  (.seq (.region [⟨(some 18), .load true 1 (.tmp 1), none⟩,
    ⟨(some 19), .build [(.int .i64 0), (.string ⟨#[]⟩), (.string ⟨#[]⟩), (.string ⟨#[]⟩), (.string ⟨#[]⟩), (.int .i64 0), (.string ⟨#[]⟩), (.string ⟨#[]⟩), (.string ⟨#[]⟩), (.string ⟨#[]⟩), (.string ⟨#[]⟩), (.bool false), (.int .i64 0), (.string ⟨#[]⟩), (.string ⟨#[]⟩)] [(0, 1, (.const (.int .i64 4))), (1, 1, (.const (.string ⟨#[112, 49]⟩)))], none⟩,
    ⟨(some 20), .call 46 [(.tmp 18), (.tmp 19)], none⟩,
    ⟨(some 17), .mov (.tmp 20), none⟩,
    ⟨(some 21), .ext 0 (.tmp 17), none⟩,
    ⟨(some 22), .ext 1 (.tmp 17), none⟩,
    ⟨(some 2), .alloc [(.slice none 0 0)], none⟩,
    ⟨none, .store 1 (.tmp 2) (.tmp 21), none⟩,
    ⟨(some 3), .mov (.tmp 22), none⟩])
  (.seq (.region [⟨(some 24), .load true 1 (.tmp 1), none⟩,
    ⟨(some 25), .build [(.int .i64 0), (.string ⟨#[]⟩), (.string ⟨#[]⟩), (.string ⟨#[]⟩), (.string ⟨#[]⟩), (.int .i64 0), (.string ⟨#[]⟩), (.string ⟨#[]⟩), (.string ⟨#[]⟩), (.string ⟨#[]⟩), (.string ⟨#[]⟩), (.bool false), (.int .i64 0), (.string ⟨#[]⟩), (.string ⟨#[]⟩)] [(0, 1, (.const (.int .i64 4))), (1, 1, (.const (.string ⟨#[100, 49]⟩))), (3, 1, (.const (.string ⟨#[112, 51]⟩)))], none⟩,
    ⟨(some 26), .call 46 [(.tmp 24), (.tmp 25)], none⟩,
    ⟨(some 23), .mov (.tmp 26), none⟩,
    ⟨(some 27), .ext 0 (.tmp 23), none⟩,
    ⟨(some 28), .ext 1 (.tmp 23), none⟩,
    ⟨(some 4), .alloc [(.slice none 0 0)], none⟩,
    ⟨none, .store 1 (.tmp 4) (.tmp 27), none⟩,
    ⟨(some 5), .mov (.tmp 28), none⟩])
  (.seq (.region [⟨(some 30), .load true 1 (.tmp 1), none⟩,
    ⟨(some 31), .build [(.int .i64 0), (.string ⟨#[]⟩), (.string ⟨#[]⟩), (.string ⟨#[]⟩), (.string ⟨#[]⟩), (.int .i64 0), (.string ⟨#[]⟩), (.string ⟨#[]⟩), (.string ⟨#[]⟩), (.string ⟨#[]⟩), (.string ⟨#[]⟩), (.bool false), (.int .i64 0), (.string ⟨#[]⟩), (.string ⟨#[]⟩)] [(0, 1, (.const (.int .i64 4))), (1, 1, (.const (.string ⟨#[100, 49]⟩))), (2, 1, (.const (.string ⟨#[100, 49]⟩)))], none⟩,
    ⟨(some 32), .call 46 [(.tmp 30), (.tmp 31)], none⟩,
    ⟨(some 29), .mov (.tmp 32), none⟩,
    ⟨(some 33), .ext 0 (.tmp 29), none⟩,
    ⟨(some 34), .ext 1 (.tmp 29), none⟩,
    ⟨(some 6), .alloc [(.slice none 0 0)], none⟩,
    ⟨none, .store 1 (.tmp 6) (.tmp 33), none⟩,
    ⟨(some 7), .mov (.tmp 34), none⟩])
  (.seq (.region [⟨(some 35), .build [(.int .i64 0), (.string ⟨#[]⟩), (.string ⟨#[]⟩), (.string ⟨#[]⟩), (.string ⟨#[]⟩), (.string ⟨#[]⟩), (.bool false)] [(0, 1, (.const (.int .i64 2))), (1, 1, (.const (.string ⟨#[112, 52]⟩))), (2, 1, (.const (.string ⟨#[100, 49]⟩)))], none⟩,
    ⟨(some 8), .alloc [(.int .i64 0), (.string ⟨#[]⟩), (.string ⟨#[]⟩), (.string ⟨#[]⟩), (.string ⟨#[]⟩), (.string ⟨#[]⟩), (.bool false)], none⟩,
    ⟨none, .store 7 (.tmp 8) (.tmp 35), none⟩])
  (.seq (.region [⟨(some 37), .load true 1 (.tmp 1), none⟩,
    ⟨(some 38), .load true 7 (.tmp 8), none⟩,
    ⟨(some 39), .build [(.int .i64 0), (.string ⟨#[]⟩), (.string ⟨#[]⟩), (.string ⟨#[]⟩), (.string ⟨#[]⟩), (.int .i64 0), (.string ⟨#[]⟩), (.string ⟨#[]⟩), (.string ⟨#[]⟩), (.string ⟨#[]⟩), (.string ⟨#[]⟩), (.bool false), (.int .i64 0), (.string ⟨#[]⟩), (.string ⟨#[]⟩)] [(0, 1, (.const (.int .i64 1))), (1, 1, (.const (.string ⟨#[112, 52]⟩))), (2, 1, (.const (.string ⟨#[100, 49]⟩))), (3, 1, (.const (.string ⟨#[112, 49]⟩))), (5, 7, (.tmp 38))], none⟩,
    ⟨(some 40), .call 46 [(.tmp 37), (.tmp 39)], none⟩,
    ⟨(some 36), .mov (.tmp 40), none⟩,
    ⟨(some 41), .ext 0 (.tmp 36), none⟩,
    ⟨(some 42), .ext 1 (.tmp 36), none⟩,
    ⟨(some 9), .alloc [(.slice none 0 0)], none⟩,
    ⟨none, .store 1 (.tmp 9) (.tmp 41), none⟩,
    ⟨(some 10), .mov (.tmp 42), none⟩])
  (.seq (.region [⟨(some 44), .load true 1 (.tmp 1), none⟩,
    ⟨(some 45), .build [(.int .i64 0), (.string ⟨#[]⟩), (.string ⟨#[]⟩), (.string ⟨#[]⟩), (.string ⟨#[]⟩), (.int .i64 0), (.string ⟨#[]⟩), (.string ⟨#[]⟩), (.string ⟨#[]⟩), (.string ⟨#[]⟩), (.string ⟨#[]⟩), (.bool false), (.int .i64 0), (.string ⟨#[]⟩), (.string ⟨#[]⟩)] [(0, 1, (.const (.int .i64 2))), (1, 1, (.const (.string ⟨#[112, 49]⟩))), (12, 1, (.const (.int .i64 1))), (13, 1, (.const (.string ⟨#[97, 97]⟩))), (14, 1, (.const (.string ⟨#[98]⟩)))], none⟩,
    ⟨(some 46), .call 46 [(.tmp 44), (.tmp 45)], none⟩,
    ⟨(some 43), .mov (.tmp 46), none⟩,
    ⟨(some 47), .ext 0 (.tmp 43), none⟩,
    ⟨(some 48), .ext 1 (.tmp 43), none⟩,
    ⟨(some 11), .alloc [(.slice none 0 0)], none⟩,
    ⟨none, .store 1 (.tmp 11) (.tmp 47), none⟩,
    ⟨(some 12), .mov (.tmp 48), none⟩])
  (.seq (.region [⟨(some 50), .load true 1 (.tmp 1), none⟩,
    ⟨(some 51), .build [(.int .i64 0), (.string ⟨#[]⟩), (.string ⟨#[]⟩), (.string ⟨#[]⟩), (.string ⟨#[]⟩), (.int .i64 0), (.string ⟨#[]⟩), (.string ⟨#[]⟩), (.string ⟨#[]⟩), (.string ⟨#[]⟩), (.string ⟨#[]⟩), (.bool false), (.int .i64 0), (.string ⟨#[]⟩), (.string ⟨#[]⟩)] [(0, 1, (.const (.int .i64 5))), (1, 1, (.const (.string ⟨#[100, 49]⟩)))], none⟩,
    ⟨(some 52), .call 46 [(.tmp 50), (.tmp 51)], none⟩,
    ⟨(some 49), .mov (.tmp 52), none⟩,
    ⟨(some 53), .ext 0 (.tmp 49), none⟩,
    ⟨(some 54), .ext 1 (.tmp 49), none⟩,
    ⟨(some 13), .alloc [(.slice none 0 0)], none⟩,
    ⟨none, .store 1 (.tmp 13) (.tmp 53), none⟩,
    ⟨(some 14), .mov (.tmp 54), none⟩])
  (.seq (.region r_pandectlaw19_head_0)
  (.seq (.region r_pandectlaw19_head_1)
  .ret)))))))))))
def c_pandectlaw19_head : AFun := ⟨96, b_pandectlaw19_head, [(0, none)]⟩
/-- 44 pandect/pandectref19.Light -/
def l_pandectref19_Light_0 : ACode := (.seq (.seq (.region [⟨(some 44), .mov (.tmp 7), none⟩,
      ⟨(some 45), .mov (.tmp 1), none⟩,
      ⟨(some 46), .len (.tmp 45), none⟩,
      ⟨(some 47), .bin .lss (.tmp 44) (.tmp 46), none⟩])
    (.cond (.tmp 47)
      .skip
      (.exit 2)))
    (.seq (.block 3 (.seq (.region [⟨(some 50), .mov (.tmp 1), none⟩,
       ⟨(some 51), .mov (.tmp 7), none⟩,
       ⟨(some 52), .iaddr 15 (.tmp 50) (.tmp 51), none⟩,
       ⟨(some 53), .load true 15 (.tmp 52), none⟩,
       ⟨(some 54), .call 45 [(.tmp 53)], none⟩,
       ⟨(some 55), .un .not (.tmp 54), none⟩])
     (.cond (.tmp 55)
       (.seq (.region [⟨(some 4), .mov (.const (.bool false)), none⟩])
       .ret)
       .skip)))
    (.region [⟨(some 48), .mov (.tmp 7), none⟩,
      ⟨(some 49), .bin .add (.tmp 48) (.const (.int .i64 1)), none⟩,
      ⟨(some 7), .mov (.tmp 49), none⟩])))
def l_pandectref19_Light_1 : ACode := (.seq (.seq (.region [⟨(some 8), .mov (.tmp 5), none⟩,
      ⟨(some 9), .faddr 0 (.tmp 2), none⟩,
      ⟨(some 10), .load false 1 (.tmp 9), none⟩,
      ⟨(some 11), .len (.tmp 10), none⟩,
      ⟨(some 12), .bin .lss (.tmp 8) (.tmp 11), none⟩])
    (.cond (.tmp 12)
      .skip
      (.exit 0)))
    (.seq (.block 1 (.seq (.region [⟨(some 15), .faddr 0 (.tmp 2), none⟩,
       ⟨(some 16), .load false 1 (.tmp 15), none⟩,
       ⟨(some 17), .mov (.tmp 5), none⟩,
       ⟨(some 18), .iaddr 7 (.tmp 16) (.tmp 17), none⟩,
       ⟨(some 19), .load true 7 (.tmp 18), none⟩,
       ⟨(some 6), .alloc [(.int .i64 0), (.string ⟨#[]⟩), (.string ⟨#[]⟩), (.string ⟨#[]⟩), (.string ⟨#[]⟩), (.string ⟨#[]⟩), (.bool false)], none⟩,
       ⟨none, .store 7 (.tmp 6) (.tmp 19), none⟩])
     (.seq (.region [⟨(some 20), .faddr 1 (.tmp 6), none⟩,
       ⟨(some 21), .load false 1 (.tmp 20), none⟩,
       ⟨(some 22), .slen (.tmp 21), none⟩,
       ⟨(some 23), .faddr 2 (.tmp 6), none⟩,
       ⟨(some 24), .load false 1 (.tmp 23), none⟩,
       ⟨(some 25), .slen (.tmp 24), none⟩,
       ⟨(some 26), .bin .add (.tmp 22) (.tmp 25), none⟩,
       ⟨(some 27), .faddr 3 (.tmp 6), none⟩,
       ⟨(some 28), .load false 1 (.tmp 27), none⟩,
       ⟨(some 29), .slen (.tmp 28), none⟩,
       ⟨(some 30), .bin .add (.tmp 26) (.tmp 29), none⟩,
       ⟨(some 31), .bin .gtr (.tmp 30) (.const (.int .i64 300)), none⟩,
       ⟨(some 32), .mov (.tmp 31), none⟩,
       ⟨(some 33), .faddr 4 (.tmp 6), (some (32, false))⟩,
       ⟨(some 34), .load false 1 (.tmp 33), (some (32, false))⟩,
       ⟨(some 35), .slen (.tmp 34), (some (32, false))⟩,
       ⟨(some 36), .bin .gtr (.tmp 35) (.const (.int .i64 500)), (some (32, false))⟩,
       ⟨(some 37), .pick (.tmp 32) (.const (.bool true)) (.tmp 36), none⟩,
       ⟨(some 38), .mov (.tmp 37), none⟩,
       ⟨(some 39), .faddr 5 (.tmp 6), (some (38, false))⟩,
       ⟨(some 40), .load false 1 (.tmp 39), (some (38, false))⟩,
       ⟨(some 41), .slen (.tmp 40), (some (38, false))⟩,
       ⟨(some 42), .bin .gtr (.tmp 41) (.const (.int .i64 500)), (some (38, false))⟩,
       ⟨(some 43), .pick (.tmp 38) (.const (.bool true)) (.tmp 42), none⟩])
     (.cond (.tmp 43)
       (.seq (.region [⟨(some 4), .mov (.const (.bool false)), none⟩])
       .ret)
       .skip))))
    (.region [⟨(some 13), .mov (.tmp 5), none⟩,
      ⟨(some 14), .bin .add (.tmp 13) (.const (.int .i64 1)), none⟩,
      ⟨(some 5), .mov (.tmp 14), none⟩])))
def b_pandectref19_Light : ACode := (.seq (.region [⟨(some 2), .box (.tmp 0), none⟩,
    ⟨(some 4), .mov (.const (.bool false)), none⟩])
  (.seq (.seq (.region [⟨(some 5), .mov (.const (.int .i64 0)), none⟩])
  (.block 0 (.loop l_pandectref19_Light_1)))
  (.seq (.seq (.region [⟨(some 7), .mov (.const (.int .i64 0)), none⟩])
  (.block 2 (.loop l_pandectref19_Light_0)))
  (.seq (.region [⟨(some 56), .faddr 0 (.tmp 2), none⟩,
    ⟨(some 57), .load false 1 (.tmp 56), none⟩,
    ⟨(some 58), .len (.tmp 57), none⟩,
    ⟨(some 59), .bin .leq (.tmp 58) (.const (.int .i64 30)), none⟩,
    ⟨(some 60), .mov (.tmp 59), none⟩,
    ⟨(some 61), .mov (.tmp 1), (some (60, true))⟩,
    ⟨(some 62), .len (.tmp 61), (some (60, true))⟩,
    ⟨(some 63), .bin .leq (.tmp 62) (.const (.int .i64 12)), (some (60, true))⟩,
    ⟨(some 64), .pick (.tmp 60) (.tmp 63) (.const (.bool false)), none⟩,
    ⟨(some 4), .mov (.tmp 64), none⟩])
  .ret))))
def c_pandectref19_Light : AFun := ⟨65, b_pandectref19_Light, [(4, none)]⟩
/-- 45 pandect/pandectref19.Few -/
def b_pandectref19_Few : ACode := (.seq (.region [⟨(some 1), .box (.tmp 0), none⟩,
    ⟨(some 2), .mov (.const (.bool false)), none⟩])
  (.seq (.region [⟨(some 4), .faddr 5 (.tmp 1), none⟩,
    ⟨(some 5), .load true 7 (.tmp 4), none⟩,
    ⟨(some 3), .alloc [(.int .i64 0), (.string ⟨#[]⟩), (.string ⟨#[]⟩), (.string ⟨#[]⟩), (.string ⟨#[]⟩), (.string ⟨#[]⟩), (.bool false)], none⟩,
    ⟨none, .store 7 (.tmp 3) (.tmp 5), none⟩])
  (.seq (.region [⟨(some 6), .faddr 1 (.tmp 1), none⟩,
    ⟨(some 7), .load false 1 (.tmp 6), none⟩,
    ⟨(some 8), .slen (.tmp 7), none⟩,
    ⟨(some 9), .faddr 2 (.tmp 1), none⟩,
    ⟨(some 10), .load false 1 (.tmp 9), none⟩,
    ⟨(some 11), .slen (.tmp 10), none⟩,
    ⟨(some 12), .bin .add (.tmp 8) (.tmp 11), none⟩,
    ⟨(some 13), .faddr 3 (.tmp 1), none⟩,
    ⟨(some 14), .load false 1 (.tmp 13), none⟩,
    ⟨(some 15), .slen (.tmp 14), none⟩,
    ⟨(some 16), .bin .add (.tmp 12) (.tmp 15), none⟩,
    ⟨(some 17), .faddr 4 (.tmp 1), none⟩,
    ⟨(some 18), .load false 1 (.tmp 17), none⟩,
    ⟨(some 19), .slen (.tmp 18), none⟩,
    ⟨(some 20), .bin .add (.tmp 16) (.tmp 19), none⟩,
    ⟨(some 21), .bin .leq (.tmp 20) (.const (.int .i64 1000)), none⟩,
    ⟨(some 22), .mov (.tmp 21), none⟩,
    ⟨(some 23), .faddr 13 (.tmp 1), (some (22, true))⟩,
    ⟨(some 24), .load false 1 (.tmp 23), (some (22, true))⟩,
    ⟨(some 25), .slen (.tmp 24), (some (22, true))⟩,
    ⟨(some 26), .faddr 14 (.tmp 1), (some (22, true))⟩,
    ⟨(some 27), .load false 1 (.tmp 26), (some (22, true))⟩,
    ⟨(some 28), .slen (.tmp 27), (some (22, true))⟩,
    ⟨(some 29), .bin .add (.tmp 25) (.tmp 28), (some (22, true))⟩,
    ⟨(some 30), .bin .leq (.tmp 29) (.const (.int .i64 1000)), (some (22, true))⟩,
    ⟨(some 31), .pick (.tmp 22) (.tmp 30) (.const (.bool false)), none⟩,
    ⟨(some 32), .mov (.tmp 31), none⟩,
    ⟨(some 33), .faddr 1 (.tmp 3), (some (32, true))⟩,
    ⟨(some 34), .load false 1 (.tmp 33), (some (32, true))⟩,
    ⟨(some 35), .slen (.tmp 34), (some (32, true))⟩,
    ⟨(some 36), .faddr 2 (.tmp 3), (some (32, true))⟩,
    ⟨(some 37), .load false 1 (.tmp 36), (some (32, true))⟩,
    ⟨(some 38), .slen (.tmp 37), (some (32, true))⟩,
    ⟨(some 39), .bin .add (.tmp 35) (.tmp 38), (some (32, true))⟩,
    ⟨(some 40), .faddr 3 (.tmp 3), (some (32, true))⟩,
    ⟨(some 41), .load false 1 (.tmp 40), (some (32, true))⟩,
    ⟨(some 42), .slen (.tmp 41), (some (32, true))⟩,
    ⟨(some 43), .bin .add (.tmp 39) (.tmp 42), (some (32, true))⟩,
    ⟨(some 44), .faddr 4 (.tmp 3), (some (32, true))⟩,
    ⟨(some 45), .load false 1 (.tmp 44), (some (32, true))⟩,
    ⟨(some 46), .slen (.tmp 45), (some (32, true))⟩,
    ⟨(some 47), .bin .add (.tmp 43) (.tmp 46), (some (32, true))⟩,
    ⟨(some 48), .faddr 5 (.tmp 3), (some (32, true))⟩,
    ⟨(some 49), .load false 1 (.tmp 48), (some (32, true))⟩,
    ⟨(some 50), .slen (.tmp 49), (some (32, true))⟩,
    ⟨(some 51), .bin .add (.tmp 47) (.tmp 50), (some (32, true))⟩,
    ⟨(some 52), .bin .leq (.tmp 51) (.const (.int .i64 2000)), (some (32, true))⟩,
    ⟨(some 53), .pick (.tmp 32) (.tmp 52) (.const (.bool false)), none⟩,
    ⟨(some 2), .mov (.tmp 53), none⟩])
  .ret)))
def c_pandectref19_Few : AFun := ⟨54, b_pandectref19_Few, [(2, none)]⟩
/-- 46 pandect/patch.Apply -/
def r_patch_Apply_0 : List AOper := [⟨(some 9), .load true 1 (.tmp 2), none⟩,
    ⟨(some 10), .call 47 [(.tmp 9)], none⟩,
    ⟨(some 11), .un .not (.tmp 10), none⟩,
    ⟨(some 12), .mov (.tmp 11), none⟩,
    ⟨(some 13), .load true 15 (.tmp 3), (some (12, false))⟩,
    ⟨(some 14), .call 66 [(.tmp 13)], (some (12, false))⟩,
    ⟨(some 15), .un .not (.tmp 14), (some (12, false))⟩,
    ⟨(some 16), .pick (.tmp 12) (.const (.bool true)) (.tmp 15), none⟩]
def b_patch_Apply (q : Nat → Nat) : ACode := (.seq (.region [⟨(some 2), .box (.tmp 0), none⟩,
    ⟨(some 3), .box (.tmp 1), none⟩,
    ⟨(some 4), .alloc [(.slice none 0 0)], none⟩,
    ⟨(some 5), .mov (.const (.int .i64 0)), none⟩])
  (.seq (.seq (.region r_patch_Apply_0)
  (.cond (.tmp 16)
    (.seq (.region [⟨(some 17), .build [(.slice none 0 0)] [], none⟩,
      ⟨none, .store 1 (.tmp 4) (.tmp 17), none⟩,
      ⟨(some 5), .mov (.const (.int .i64 1)), none⟩])
    .ret)
    .skip))
  (.seq (.draw [⟨(some 18), .load true 1 (.tmp 2), none⟩,
    ⟨(some 19), .load true 15 (.tmp 3), none⟩,
    ⟨(some 20), .load true 1 (.tmp 2), none⟩,
    ⟨(some 21), .faddr 1 (.tmp 3), none⟩,
    ⟨(some 22), .load false 1 (.tmp 21), none⟩,
    ⟨(some 23), .call 48 [(.tmp 20), (.tmp 22)], none⟩,
    ⟨(some 24), .build [(.slice none 0 0), (.int .i64 0), (.string ⟨#[]⟩), (.string ⟨#[]⟩), (.string ⟨#[]⟩), (.string ⟨#[]⟩), (.int .i64 0), (.string ⟨#[]⟩), (.string ⟨#[]⟩), (.string ⟨#[]⟩), (.string ⟨#[]⟩), (.string ⟨#[]⟩), (.bool false), (.int .i64 0), (.string ⟨#[]⟩), (.string ⟨#[]⟩), (.int .i64 0)] [(0, 1, (.tmp 18)), (1, 15, (.tmp 19)), (16, 1, (.tmp 23))], none⟩,
    ⟨(some 6), .alloc [(.slice none 0 0), (.int .i64 0), (.string ⟨#[]⟩), (.string ⟨#[]⟩), (.string ⟨#[]⟩), (.string ⟨#[]⟩), (.int .i64 0), (.string ⟨#[]⟩), (.string ⟨#[]⟩), (.string ⟨#[]⟩), (.string ⟨#[]⟩), (.string ⟨#[]⟩), (.bool false), (.int .i64 0), (.string ⟨#[]⟩), (.string ⟨#[]⟩), (.int .i64 0)], none⟩,
    ⟨none, .store 17 (.tmp 6) (.tmp 24), none⟩] [[], [], [], [], [3], [3, 4, 2], [2, 4, 3, 5, 1, 0], [], [4, 3, 2, 1, 0, 5, 6, 7]])
  (.seq (.region [⟨(some 25), .build [.nilFunc, .nilFunc, .nilFunc, .nilFunc, .nilFunc, .nilFunc, .nilFunc, .nilFunc] [(1, 1, (.func (q 67))), (2, 1, (.func (q 68))), (3, 1, (.func (q 69))), (4, 1, (.func (q 70))), (5, 1, (.func (q 71))), (6, 1, (.func (q 71))), (7, 1, (.func (q 72)))], none⟩,
    ⟨(some 7), .alloc [.nilFunc, .nilFunc, .nilFunc, .nilFunc, .nilFunc, .nilFunc, .nilFunc, .nilFunc], none⟩,
    ⟨none, .store 8 (.tmp 7) (.tmp 25), none⟩])
  (.seq (.seq (.region [⟨(some 26), .faddr 0 (.tmp 3), none⟩,
    ⟨(some 27), .load false 1 (.tmp 26), none⟩,
    ⟨(some 28), .bin .neq (.tmp 27) (.const (.int .i64 1)), none⟩])
  (.cond (.tmp 28)
    (.seq (.region [⟨(some 29), .load true 17 (.tmp 6), none⟩,
      ⟨(some 30), .faddr 1 (.tmp 3), none⟩,
      ⟨(some 31), .load false 1 (.tmp 30), none⟩,
      ⟨(some 32), .call 73 [(.tmp 29), (.tmp 31)], none⟩,
      ⟨(some 8), .alloc [(.int .i64 0), (.string ⟨#[]⟩), (.string ⟨#[]⟩), (.string ⟨#[]⟩), (.string ⟨#[]⟩), (.string ⟨#[]⟩), (.bool false)], none⟩,
      ⟨none, .store 7 (.tmp 8) (.tmp 32), none⟩])
    (.block 0 (.seq (.seq (.region [⟨(some 34), .faddr 0 (.tmp 8), none⟩,
       ⟨(some 35), .load false 1 (.tmp 34), none⟩,
       ⟨(some 36), .bin .eql (.tmp 35) (.const (.int .i64 0)), none⟩,
       ⟨(some 33), .mov (.tmp 36), none⟩])
     (.cond (.tmp 33)
       .skip
       (.region [⟨(some 37), .faddr 0 (.tmp 8), none⟩,
         ⟨(some 38), .load false 1 (.tmp 37), none⟩,
         ⟨(some 39), .bin .eql (.tmp 38) (.const (.int .i64 1)), none⟩,
         ⟨(some 40), .mov (.tmp 39), none⟩,
         ⟨(some 41), .faddr 0 (.tmp 3), (some (40, true))⟩,
         ⟨(some 42), .load false 1 (.tmp 41), (some (40, true))⟩,
         ⟨(some 43), .bin .neq (.tmp 42) (.const (.int .i64 3)), (some (40, true))⟩,
         ⟨(some 44), .pick (.tmp 40) (.tmp 43) (.const (.bool false)), none⟩,
         ⟨(some 45), .mov (.tmp 44), none⟩,
         ⟨(some 46), .faddr 0 (.tmp 3), (some (45, true))⟩,
         ⟨(some 47), .load false 1 (.tmp 46), (some (45, true))⟩,
         ⟨(some 48), .bin .neq (.tmp 47) (.const (.int .i64 4)), (some (45, true))⟩,
         ⟨(some 49), .pick (.tmp 45) (.tmp 48) (.const (.bool false)), none⟩,
         ⟨(some 33), .mov (.tmp 49), none⟩])))
     (.cond (.tmp 33)
       (.seq (.region [⟨(some 50), .build [(.slice none 0 0)] [], none⟩,
         ⟨none, .store 1 (.tmp 4) (.tmp 50), none⟩,
         ⟨(some 5), .mov (.const (.int .i64 11)), none⟩])
       .ret)
       (.seq (.region [⟨(some 52), .faddr 0 (.tmp 3), none⟩,
         ⟨(some 53), .load false 1 (.tmp 52), none⟩,
         ⟨(some 54), .bin .eql (.tmp 53) (.const (.int .i64 6)), none⟩,
         ⟨(some 55), .mov (.tmp 54), none⟩,
         ⟨(some 56), .faddr 6 (.tmp 8), (some (55, true))⟩,
         ⟨(some 57), .load false 1 (.tmp 56), (some (55, true))⟩,
         ⟨(some 58), .un .not (.tmp 57), (some (55, true))⟩,
         ⟨(some 59), .pick (.tmp 55) (.tmp 58) (.const (.bool false)), none⟩,
         ⟨(some 51), .mov (.tmp 59), none⟩])
       (.cond (.tmp 51)
         (.seq (.region [⟨(some 60), .build [(.slice none 0 0)] [], none⟩,
           ⟨none, .store 1 (.tmp 4) (.tmp 60), none⟩,
           ⟨(some 5), .mov (.const (.int .i64 12)), none⟩])
         .ret)
         (.seq (.region [⟨(some 62), .faddr 0 (.tmp 3), none⟩,
           ⟨(some 63), .load false 1 (.tmp 62), none⟩,
           ⟨(some 64), .bin .neq (.tmp 63) (.const (.int .i64 6)), none⟩,
           ⟨(some 65), .mov (.tmp 64), none⟩,
           ⟨(some 66), .faddr 6 (.tmp 8), (some (65, true))⟩,
           ⟨(some 67), .load false 1 (.tmp 66), (some (65, true))⟩,
           ⟨(some 68), .pick (.tmp 65) (.tmp 67) (.const (.bool false)), none⟩,
           ⟨(some 61), .mov (.tmp 68), none⟩])
         (.cond (.tmp 61)
           (.seq (.region [⟨(some 69), .build [(.slice none 0 0)] [], none⟩,
             ⟨none, .store 1 (.tmp 4) (.tmp 69), none⟩,
             ⟨(some 5), .mov (.const (.int .i64 16)), none⟩])
           .ret)
           .skip))))))))
    .skip))
  (.seq (.draw [⟨(some 70), .faddr 0 (.tmp 3), none⟩,
    ⟨(some 71), .load false 1 (.tmp 70), none⟩,
    ⟨(some 72), .aaddr 8 1 (.tmp 7) (.tmp 71), none⟩,
    ⟨(some 73), .load false 1 (.tmp 72), none⟩,
    ⟨(some 74), .load true 17 (.tmp 6), none⟩,
    ⟨(some 75), .callv (.tmp 73) [(.tmp 74)], none⟩,
    ⟨(some 76), .ext 0 (.tmp 75), none⟩,
    ⟨(some 77), .ext 1 (.tmp 75), none⟩,
    ⟨none, .store 1 (.tmp 4) (.tmp 76), none⟩,
    ⟨(some 5), .mov (.tmp 77), none⟩] [[], [0], [0, 1], [1, 0, 2], [], [2, 0, 1, 4, 3], [3, 4, 1, 0, 2, 5], [3, 4, 1, 0, 2, 5], [7, 4, 3, 2, 1, 0, 5, 6], [6, 5, 4, 3, 2, 1, 0, 8, 7]])
  .ret))))))
def c_patch_Apply (q : Nat → Nat) : AFun := ⟨78, b_patch_Apply q, [(4, some (true, 1)), (5, none)]⟩
/-- 47 pandect/code.Valid -/
def b_code_Valid (q : Nat → Nat) : ACode := (.seq (.region [⟨(some 1), .box (.tmp 0), none⟩,
    ⟨(some 2), .mov (.const (.bool false)), none⟩])
  (.seq (.region [⟨(some 3), .load true 1 (.tmp 1), none⟩,
    ⟨(some 4), .call 74 [(.tmp 3), (.func (q 75))], none⟩,
    ⟨(some 2), .mov (.tmp 4), none⟩])
  .ret))
def c_code_Valid (q : Nat → Nat) : AFun := ⟨5, b_code_Valid q, [(2, none)]⟩
/-- 48 pandect/code.Find -/
def b_code_Find (q : Nat → Nat) : ACode := (.seq (.region [⟨(some 2), .box (.tmp 0), none⟩,
    ⟨(some 3), .box (.tmp 1), none⟩,
    ⟨(some 4), .mov (.const (.int .i64 0)), none⟩])
  (.seq (.region [⟨(some 5), .faddr 0 (.tmp 2), none⟩,
    ⟨(some 6), .load false 1 (.tmp 5), none⟩,
    ⟨(some 7), .mkf (q 77) [] [(.tmp 3)], none⟩,
    ⟨(some 8), .call 76 [(.tmp 6), (.tmp 7)], none⟩,
    ⟨(some 4), .mov (.tmp 8), none⟩])
  .ret))
def c_code_Find (q : Nat → Nat) : AFun := ⟨9, b_code_Find q, [(4, none)]⟩
/-- 49 pandect/code.Below -/
def b_code_Below (q : Nat → Nat) : ACode := (.seq (.region [⟨(some 2), .box (.tmp 0), none⟩,
    ⟨(some 3), .box (.tmp 1), none⟩,
    ⟨(some 4), .mov (.const (.slice none 0 0)), none⟩])
  (.seq (.region [⟨(some 5), .alloc [(.slice none 0 0)], none⟩])
  (.seq (.region [⟨(some 7), .load true 1 (.tmp 2), none⟩,
    ⟨(some 8), .mkf (q 78) [] [(.tmp 3), (.tmp 5), (.tmp 2)], none⟩,
    ⟨(some 9), .call 74 [(.tmp 7), (.tmp 8)], none⟩,
    ⟨(some 6), .mov (.tmp 9), none⟩])
  (.seq (.seq (.region [⟨(some 10), .mov (.tmp 6), none⟩,
    ⟨(some 11), .un .not (.tmp 10), none⟩])
  (.cond (.tmp 11)
    (.seq (.region [⟨(some 4), .mov (.const (.slice none 0 0)), none⟩])
    .ret)
    .skip))
  (.seq (.region [⟨(some 12), .load false 1 (.tmp 5), none⟩,
    ⟨(some 4), .mov (.tmp 12), none⟩])
  .ret)))))
def c_code_Below (q : Nat → Nat) : AFun := ⟨13, b_code_Below q, [(4, none)]⟩
/-- 50 pandect/pandectref07.Names -/
def l_pandectref07_Names_0 : ACode := (.seq (.seq (.region [⟨(some 11), .mov (.tmp 5), none⟩,
      ⟨(some 12), .mov (.tmp 0), none⟩,
      ⟨(some 13), .len (.tmp 12), none⟩,
      ⟨(some 14), .bin .lss (.tmp 11) (.tmp 13), none⟩])
    (.cond (.tmp 14)
      .skip
      (.exit 0)))
    (.seq (.block 1 (.seq (.draw [⟨(some 17), .mov (.tmp 0), none⟩,
       ⟨(some 18), .mov (.tmp 5), none⟩,
       ⟨(some 19), .iaddr 1 (.tmp 17) (.tmp 18), none⟩,
       ⟨(some 20), .load false 1 (.tmp 19), none⟩,
       ⟨(some 21), .mov (.tmp 1), none⟩,
       ⟨(some 22), .mov (.tmp 5), none⟩,
       ⟨(some 23), .iaddr 1 (.tmp 21) (.tmp 22), none⟩,
       ⟨(some 24), .load false 1 (.tmp 23), none⟩,
       ⟨(some 25), .bin .neq (.tmp 20) (.tmp 24), none⟩] [[], [], [1, 0], [0, 1, 2], [], [], [5, 4], [4, 5, 6], [6, 5, 4, 2, 1, 0, 7, 3]])
     (.cond (.tmp 25)
       (.seq (.region [⟨(some 4), .mov (.const (.bool false)), none⟩])
       .ret)
       .skip)))
    (.region [⟨(some 15), .mov (.tmp 5), none⟩,
      ⟨(some 16), .bin .add (.tmp 15) (.const (.int .i64 1)), none⟩,
      ⟨(some 5), .mov (.tmp 16), none⟩])))
def b_pandectref07_Names : ACode := (.seq (.region [⟨(some 4), .mov (.const (.bool false)), none⟩])
  (.seq (.seq (.region [⟨(some 6), .mov (.tmp 0), none⟩,
    ⟨(some 7), .len (.tmp 6), none⟩,
    ⟨(some 8), .mov (.tmp 1), none⟩,
    ⟨(some 9), .len (.tmp 8), none⟩,
    ⟨(some 10), .bin .neq (.tmp 7) (.tmp 9), none⟩])
  (.cond (.tmp 10)
    (.seq (.region [⟨(some 4), .mov (.const (.bool false)), none⟩])
    .ret)
    .skip))
  (.seq (.seq (.region [⟨(some 5), .mov (.const (.int .i64 0)), none⟩])
  (.block 0 (.loop l_pandectref07_Names_0)))
  (.seq (.region [⟨(some 4), .mov (.const (.bool true)), none⟩])
  .ret))))
def c_pandectref07_Names : AFun := ⟨26, b_pandectref07_Names, [(4, none)]⟩
/-- 51 pandect/pandectlaw19.ids -/
def l_pandectlaw19_ids_0 : ACode := (.seq (.seq (.region [⟨(some 5), .mov (.tmp 4), none⟩,
      ⟨(some 6), .faddr 0 (.tmp 1), none⟩,
      ⟨(some 7), .load false 1 (.tmp 6), none⟩,
      ⟨(some 8), .len (.tmp 7), none⟩,
      ⟨(some 9), .bin .lss (.tmp 5) (.tmp 8), none⟩])
    (.cond (.tmp 9)
      .skip
      (.exit 0)))
    (.seq (.block 1 (.region [⟨(some 12), .mov (.tmp 3), none⟩,
       ⟨(some 13), .faddr 0 (.tmp 1), none⟩,
       ⟨(some 14), .load false 1 (.tmp 13), none⟩,
       ⟨(some 15), .mov (.tmp 4), none⟩,
       ⟨(some 16), .iaddr 7 (.tmp 14) (.tmp 15), none⟩,
       ⟨(some 17), .faddr 1 (.tmp 16), none⟩,
       ⟨(some 18), .load false 1 (.tmp 17), none⟩,
       ⟨(some 19), .bsl 1 [(.tmp 18)], none⟩,
       ⟨(some 20), .app 1 16 (.tmp 12) (.tmp 19), none⟩,
       ⟨(some 3), .mov (.tmp 20), none⟩]))
    (.region [⟨(some 10), .mov (.tmp 4), none⟩,
      ⟨(some 11), .bin .add (.tmp 10) (.const (.int .i64 1)), none⟩,
      ⟨(some 4), .mov (.tmp 11), none⟩])))
def b_pandectlaw19_ids : ACode := (.seq (.region [⟨(some 1), .box (.tmp 0), none⟩,
    ⟨(some 2), .mov (.const (.slice none 0 0)), none⟩])
  (.seq (.region [⟨(some 3), .mov (.const (.slice none 0 0)), none⟩])
  (.seq (.seq (.region [⟨(some 4), .mov (.const (.int .i64 0)), none⟩])
  (.block 0 (.loop l_pandectlaw19_ids_0)))
  (.seq (.region [⟨(some 21), .mov (.tmp 3), none⟩,
    ⟨(some 2), .mov (.tmp 21), none⟩])
  .ret))))
def c_pandectlaw19_ids : AFun := ⟨22, b_pandectlaw19_ids, [(2, none)]⟩
/-- 52 pandect/pandectref07.In -/
def l_pandectref07_In_0 : ACode := (.seq (.seq (.region [⟨(some 6), .mov (.tmp 5), none⟩,
      ⟨(some 7), .mov (.tmp 0), none⟩,
      ⟨(some 8), .len (.tmp 7), none⟩,
      ⟨(some 9), .bin .lss (.tmp 6) (.tmp 8), none⟩])
    (.cond (.tmp 9)
      .skip
      (.exit 0)))
    (.seq (.block 1 (.seq (.region [⟨(some 12), .mov (.tmp 0), none⟩,
       ⟨(some 13), .mov (.tmp 5), none⟩,
       ⟨(some 14), .iaddr 1 (.tmp 12) (.tmp 13), none⟩,
       ⟨(some 15), .load false 1 (.tmp 14), none⟩,
       ⟨(some 16), .mov (.tmp 1), none⟩,
       ⟨(some 17), .bin .eql (.tmp 15) (.tmp 16), none⟩])
     (.cond (.tmp 17)
       (.seq (.region [⟨(some 4), .mov (.const (.bool true)), none⟩])
       .ret)
       .skip)))
    (.region [⟨(some 10), .mov (.tmp 5), none⟩,
      ⟨(some 11), .bin .add (.tmp 10) (.const (.int .i64 1)), none⟩,
      ⟨(some 5), .mov (.tmp 11), none⟩])))
def b_pandectref07_In : ACode := (.seq (.region [⟨(some 4), .mov (.const (.bool false)), none⟩])
  (.seq (.seq (.region [⟨(some 5), .mov (.const (.int .i64 0)), none⟩])
  (.block 0 (.loop l_pandectref07_In_0)))
  (.seq (.region [⟨(some 4), .mov (.const (.bool false)), none⟩])
  .ret)))
def c_pandectref07_In : AFun := ⟨18, b_pandectref07_In, [(4, none)]⟩
/-- 53 pandect/pandectref18.Same -/
def l_pandectref18_Same_0 : ACode := (.seq (.seq (.region [⟨(some 13), .mov (.tmp 5), none⟩,
      ⟨(some 14), .faddr 0 (.tmp 2), none⟩,
      ⟨(some 15), .load false 1 (.tmp 14), none⟩,
      ⟨(some 16), .len (.tmp 15), none⟩,
      ⟨(some 17), .bin .lss (.tmp 13) (.tmp 16), none⟩])
    (.cond (.tmp 17)
      .skip
      (.exit 0)))
    (.seq (.block 1 (.seq (.draw [⟨(some 20), .faddr 0 (.tmp 2), none⟩,
       ⟨(some 21), .load false 1 (.tmp 20), none⟩,
       ⟨(some 22), .mov (.tmp 5), none⟩,
       ⟨(some 23), .iaddr 7 (.tmp 21) (.tmp 22), none⟩,
       ⟨(some 24), .load true 7 (.tmp 23), none⟩,
       ⟨(some 25), .faddr 0 (.tmp 3), none⟩,
       ⟨(some 26), .load false 1 (.tmp 25), none⟩,
       ⟨(some 27), .mov (.tmp 5), none⟩,
       ⟨(some 28), .iaddr 7 (.tmp 26) (.tmp 27), none⟩,
       ⟨(some 29), .load true 7 (.tmp 28), none⟩,
       ⟨(some 30), .seq true [1, 2, 2, 2, 2, 2, 0] (.tmp 24) (.tmp 29), none⟩] [[], [0], [], [0, 2, 1], [1, 2, 0, 3], [], [5], [], [5, 7, 6], [6, 7, 5, 8], [8, 5, 7, 6, 3, 0, 2, 1, 9, 4]])
     (.cond (.tmp 30)
       (.seq (.region [⟨(some 4), .mov (.const (.bool false)), none⟩])
       .ret)
       .skip)))
    (.region [⟨(some 18), .mov (.tmp 5), none⟩,
      ⟨(some 19), .bin .add (.tmp 18) (.const (.int .i64 1)), none⟩,
      ⟨(some 5), .mov (.tmp 19), none⟩])))
def b_pandectref18_Same : ACode := (.seq (.region [⟨(some 2), .box (.tmp 0), none⟩,
    ⟨(some 3), .box (.tmp 1), none⟩,
    ⟨(some 4), .mov (.const (.bool false)), none⟩])
  (.seq (.seq (.region [⟨(some 6), .faddr 0 (.tmp 2), none⟩,
    ⟨(some 7), .load false 1 (.tmp 6), none⟩,
    ⟨(some 8), .len (.tmp 7), none⟩,
    ⟨(some 9), .faddr 0 (.tmp 3), none⟩,
    ⟨(some 10), .load false 1 (.tmp 9), none⟩,
    ⟨(some 11), .len (.tmp 10), none⟩,
    ⟨(some 12), .bin .neq (.tmp 8) (.tmp 11), none⟩])
  (.cond (.tmp 12)
    (.seq (.region [⟨(some 4), .mov (.const (.bool false)), none⟩])
    .ret)
    .skip))
  (.seq (.seq (.region [⟨(some 5), .mov (.const (.int .i64 0)), none⟩])
  (.block 0 (.loop l_pandectref18_Same_0)))
  (.seq (.region [⟨(some 4), .mov (.const (.bool true)), none⟩])
  .ret))))
def c_pandectref18_Same : AFun := ⟨31, b_pandectref18_Same, [(4, none)]⟩
/-- 54 pandect/patch.All -/
def l_patch_All_0 : ACode := (.seq (.region [⟨(some 18), .bin .lss (.tmp 17) (.tmp 16), none⟩])
    (.seq (.cond (.tmp 18)
      .skip
      (.exit 0))
    (.seq (.block 1 (.seq (.region [⟨(some 19), .mov (.tmp 17), none⟩,
       ⟨(some 20), .iaddr 15 (.tmp 15) (.tmp 17), none⟩,
       ⟨(some 21), .load true 15 (.tmp 20), none⟩,
       ⟨(some 8), .alloc [(.int .i64 0), (.string ⟨#[]⟩), (.string ⟨#[]⟩), (.string ⟨#[]⟩), (.string ⟨#[]⟩), (.int .i64 0), (.string ⟨#[]⟩), (.string ⟨#[]⟩), (.string ⟨#[]⟩), (.string ⟨#[]⟩), (.string ⟨#[]⟩), (.bool false), (.int .i64 0), (.string ⟨#[]⟩), (.string ⟨#[]⟩)], none⟩,
       ⟨(some 7), .mov (.tmp 19), none⟩,
       ⟨none, .store 15 (.tmp 8) (.tmp 21), none⟩])
     (.seq (.region [⟨(some 23), .load true 1 (.tmp 2), none⟩,
       ⟨(some 24), .load true 15 (.tmp 8), none⟩,
       ⟨(some 25), .call 46 [(.tmp 23), (.tmp 24)], none⟩,
       ⟨(some 22), .mov (.tmp 25), none⟩,
       ⟨(some 26), .ext 0 (.tmp 22), none⟩,
       ⟨(some 27), .ext 1 (.tmp 22), none⟩,
       ⟨(some 9), .alloc [(.slice none 0 0)], none⟩,
       ⟨none, .store 1 (.tmp 9) (.tmp 26), none⟩,
       ⟨(some 10), .mov (.tmp 27), none⟩])
     (.seq (.seq (.region [⟨(some 28), .mov (.tmp 10), none⟩,
       ⟨(some 29), .bin .neq (.tmp 28) (.const (.int .i64 0)), none⟩])
     (.cond (.tmp 29)
       (.seq (.region [⟨(some 30), .build [(.slice none 0 0)] [], none⟩,
         ⟨(some 31), .mov (.tmp 7), none⟩,
         ⟨(some 32), .mov (.tmp 10), none⟩,
         ⟨none, .store 1 (.tmp 4) (.tmp 30), none⟩,
         ⟨(some 5), .mov (.tmp 31), none⟩,
         ⟨(some 6), .mov (.tmp 32), none⟩])
       .ret)
       .skip))
     (.region [⟨(some 33), .load true 1 (.tmp 9), none⟩,
       ⟨none, .store 1 (.tmp 2) (.tmp 33), none⟩])))))
    (.region [⟨(some 34), .bin .add (.tmp 17) (.const (.int .i64 1)), none⟩,
      ⟨(some 17), .mov (.tmp 34), none⟩]))))
def b_patch_All : ACode := (.seq (.region [⟨(some 2), .box (.tmp 0), none⟩,
    ⟨(some 4), .alloc [(.slice none 0 0)], none⟩,
    ⟨(some 5), .mov (.const (.int .i64 0)), none⟩,
    ⟨(some 6), .mov (.const (.int .i64 0)), none⟩])
  (.seq (.seq (.region [⟨(some 11), .load true 1 (.tmp 2), none⟩,
    ⟨(some 12), .call 47 [(.tmp 11)], none⟩,
    ⟨(some 13), .un .not (.tmp 12), none⟩])
  (.cond (.tmp 13)
    (.seq (.region [⟨(some 14), .build [(.slice none 0 0)] [], none⟩,
      ⟨none, .store 1 (.tmp 4) (.tmp 14), none⟩,
      ⟨(some 5), .mov (.const (.int .i64 (-1))), none⟩,
      ⟨(some 6), .mov (.const (.int .i64 1)), none⟩])
    .ret)
    .skip))
  (.seq (.seq (.region [⟨(some 15), .mov (.tmp 1), none⟩,
    ⟨(some 16), .len (.tmp 15), none⟩,
    ⟨(some 17), .mov (.const (.int .i64 0)), none⟩])
  (.block 0 (.loop l_patch_All_0)))
  (.seq (.region [⟨(some 35), .faddr 0 (.tmp 2), none⟩,
    ⟨(some 36), .load false 1 (.tmp 35), none⟩,
    ⟨(some 37), .call 80 [(.tmp 36)], none⟩,
    ⟨(some 38), .build [(.slice none 0 0)] [(0, 1, (.tmp 37))], none⟩,
    ⟨none, .store 1 (.tmp 4) (.tmp 38), none⟩,
    ⟨(some 5), .mov (.const (.int .i64 (-1))), none⟩,
    ⟨(some 6), .mov (.const (.int .i64 0)), none⟩])
  .ret))))
def c_patch_All : AFun := ⟨39, b_patch_All, [(4, some (true, 1)), (5, none), (6, none)]⟩
/-- 65 pandect/pandectlaw19.example -/
def b_pandectlaw19_example : ACode := (.seq (.region [⟨(some 0), .alloc [(.slice none 0 0)], none⟩])
  (.seq (.region [⟨(some 1), .build [(.int .i64 0), (.string ⟨#[]⟩), (.string ⟨#[]⟩), (.string ⟨#[]⟩), (.string ⟨#[]⟩), (.string ⟨#[]⟩), (.bool false)] [(0, 1, (.const (.int .i64 1))), (1, 1, (.const (.string ⟨#[100, 49]⟩)))], none⟩,
    ⟨(some 2), .build [(.int .i64 0), (.string ⟨#[]⟩), (.string ⟨#[]⟩), (.string ⟨#[]⟩), (.string ⟨#[]⟩), (.string ⟨#[]⟩), (.bool false)] [(0, 1, (.const (.int .i64 2))), (1, 1, (.const (.string ⟨#[112, 49]⟩))), (2, 1, (.const (.string ⟨#[100, 49]⟩))), (4, 1, (.const (.string ⟨#[97, 97, 97]⟩)))], none⟩,
    ⟨(some 3), .build [(.int .i64 0), (.string ⟨#[]⟩), (.string ⟨#[]⟩), (.string ⟨#[]⟩), (.string ⟨#[]⟩), (.string ⟨#[]⟩), (.bool false)] [(0, 1, (.const (.int .i64 2))), (1, 1, (.const (.string ⟨#[112, 50]⟩))), (2, 1, (.const (.string ⟨#[100, 49]⟩)))], none⟩,
    ⟨(some 4), .build [(.int .i64 0), (.string ⟨#[]⟩), (.string ⟨#[]⟩), (.string ⟨#[]⟩), (.string ⟨#[]⟩), (.string ⟨#[]⟩), (.bool false)] [(0, 1, (.const (.int .i64 2))), (1, 1, (.const (.string ⟨#[112, 51]⟩)))], none⟩,
    ⟨(some 5), .bsl 7 [(.tmp 1), (.tmp 2), (.tmp 3), (.tmp 4)], none⟩,
    ⟨(some 6), .build [(.slice none 0 0)] [(0, 1, (.tmp 5))], none⟩,
    ⟨none, .store 1 (.tmp 0) (.tmp 6), none⟩])
  .ret))
def c_pandectlaw19_example : AFun := ⟨7, b_pandectlaw19_example, [(0, some (true, 1))]⟩
/-- 66 pandect/patch.formed -/
def r_patch_formed_0 : List AOper := [⟨(some 27), .load true 15 (.tmp 1), none⟩,
       ⟨(some 28), .load true 15 (.tmp 3), none⟩,
       ⟨(some 29), .seq false [1, 2, 2, 2, 2, 1, 2, 2, 2, 2, 2, 0, 1, 2, 2] (.tmp 27) (.tmp 28), none⟩,
       ⟨(some 30), .mov (.tmp 29), none⟩,
       ⟨(some 31), .faddr 1 (.tmp 5), (some (30, true))⟩,
       ⟨(some 32), .load false 1 (.tmp 31), (some (30, true))⟩,
       ⟨(some 33), .faddr 1 (.tmp 1), (some (30, true))⟩,
       ⟨(some 34), .load false 1 (.tmp 33), (some (30, true))⟩,
       ⟨(some 35), .bin .eql (.tmp 32) (.tmp 34), (some (30, true))⟩,
       ⟨(some 36), .pick (.tmp 30) (.tmp 35) (.const (.bool false)), none⟩,
       ⟨(some 37), .mov (.tmp 36), none⟩,
       ⟨(some 38), .faddr 5 (.tmp 1), (some (37, true))⟩,
       ⟨(some 39), .faddr 2 (.tmp 38), (some (37, true))⟩,
       ⟨(some 40), .load false 1 (.tmp 39), (some (37, true))⟩,
       ⟨(some 41), .faddr 2 (.tmp 1), (some (37, true))⟩,
       ⟨(some 42), .load false 1 (.tmp 41), (some (37, true))⟩,
       ⟨(some 43), .bin .eql (.tmp 40) (.tmp 42), (some (37, true))⟩,
       ⟨(some 44), .pick (.tmp 37) (.tmp 43) (.const (.bool false)), none⟩,
       ⟨(some 45), .mov (.tmp 44), none⟩,
       ⟨(some 46), .mov (.tmp 4), (some (45, true))⟩,
       ⟨(some 47), .load true 7 (.tmp 5), (some (45, true))⟩,
       ⟨(some 48), .callv (.tmp 46) [(.tmp 47)], (some (45, true))⟩,
       ⟨(some 49), .pick (.tmp 45) (.tmp 48) (.const (.bool false)), none⟩,
       ⟨(some 2), .mov (.tmp 49), none⟩]
def r_patch_formed_1 : List AOper := [⟨(some 84), .load true 15 (.tmp 1), none⟩,
           ⟨(some 85), .load true 15 (.tmp 3), none⟩,
           ⟨(some 86), .seq false [1, 2, 2, 2, 2, 1, 2, 2, 2, 2, 2, 0, 1, 2, 2] (.tmp 84) (.tmp 85), none⟩,
           ⟨(some 87), .mov (.tmp 86), none⟩,
           ⟨(some 88), .mov (.tmp 4), (some (87, true))⟩,
           ⟨(some 89), .faddr 4 (.tmp 1), (some (87, true))⟩,
           ⟨(some 90), .load false 1 (.tmp 89), (some (87, true))⟩,
           ⟨(some 91), .build [(.int .i64 0), (.string ⟨#[]⟩), (.string ⟨#[]⟩), (.string ⟨#[]⟩), (.string ⟨#[]⟩), (.string ⟨#[]⟩), (.bool false)] [(0, 1, (.const (.int .i64 1))), (1, 1, (.const (.string ⟨#[100]⟩))), (3, 1, (.tmp 90))], (some (87, true))⟩,
           ⟨(some 92), .callv (.tmp 88) [(.tmp 91)], (some (87, true))⟩,
           ⟨(some 93), .pick (.tmp 87) (.tmp 92) (.const (.bool false)), none⟩,
           ⟨(some 2), .mov (.tmp 93), none⟩]
def b_patch_formed (q : Nat → Nat) : ACode := (.seq (.region [⟨(some 1), .box (.tmp 0), none⟩,
    ⟨(some 2), .mov (.const (.bool false)), none⟩])
  (.seq (.region [⟨(some 6), .faddr 0 (.tmp 1), none⟩,
    ⟨(some 7), .load false 1 (.tmp 6), none⟩,
    ⟨(some 8), .faddr 1 (.tmp 1), none⟩,
    ⟨(some 9), .load false 1 (.tmp 8), none⟩,
    ⟨(some 10), .build [(.int .i64 0), (.string ⟨#[]⟩), (.string ⟨#[]⟩), (.string ⟨#[]⟩), (.string ⟨#[]⟩), (.int .i64 0), (.string ⟨#[]⟩), (.string ⟨#[]⟩), (.string ⟨#[]⟩), (.string ⟨#[]⟩), (.string ⟨#[]⟩), (.bool false), (.int .i64 0), (.string ⟨#[]⟩), (.string ⟨#[]⟩)] [(0, 1, (.tmp 7)), (1, 1, (.tmp 9))], none⟩,
    ⟨(some 3), .alloc [(.int .i64 0), (.string ⟨#[]⟩), (.string ⟨#[]⟩), (.string ⟨#[]⟩), (.string ⟨#[]⟩), (.int .i64 0), (.string ⟨#[]⟩), (.string ⟨#[]⟩), (.string ⟨#[]⟩), (.string ⟨#[]⟩), (.string ⟨#[]⟩), (.bool false), (.int .i64 0), (.string ⟨#[]⟩), (.string ⟨#[]⟩)], none⟩,
    ⟨none, .store 15 (.tmp 3) (.tmp 10), none⟩])
  (.seq (.region [⟨(some 4), .mov (.func (q 101)), none⟩])
  (.seq (.seq (.region [⟨(some 11), .faddr 0 (.tmp 1), none⟩,
    ⟨(some 12), .load false 1 (.tmp 11), none⟩])
  (.block 0 (.seq (.region [⟨(some 14), .bin .eql (.tmp 12) (.const (.int .i64 1)), none⟩,
     ⟨(some 13), .mov (.tmp 14), none⟩])
   (.cond (.tmp 13)
     (.seq (.region [⟨(some 15), .faddr 5 (.tmp 1), none⟩,
       ⟨(some 16), .load true 7 (.tmp 15), none⟩,
       ⟨(some 5), .alloc [(.int .i64 0), (.string ⟨#[]⟩), (.string ⟨#[]⟩), (.string ⟨#[]⟩), (.string ⟨#[]⟩), (.string ⟨#[]⟩), (.bool false)], none⟩,
       ⟨none, .store 7 (.tmp 5) (.tmp 16), none⟩])
     (.seq (.draw [⟨(some 17), .faddr 2 (.tmp 1), none⟩,
       ⟨(some 18), .load false 1 (.tmp 17), none⟩,
       ⟨(some 19), .faddr 3 (.tmp 1), none⟩,
       ⟨(some 20), .load false 1 (.tmp 19), none⟩,
       ⟨(some 21), .faddr 5 (.tmp 1), none⟩,
       ⟨(some 22), .load true 7 (.tmp 21), none⟩,
       ⟨(some 23), .faddr 2 (.tmp 3), none⟩,
       ⟨none, .store 1 (.tmp 23) (.tmp 18), none⟩,
       ⟨(some 24), .faddr 3 (.tmp 3), none⟩,
       ⟨none, .store 1 (.tmp 24) (.tmp 20), none⟩,
       ⟨(some 25), .faddr 5 (.tmp 3), none⟩,
       ⟨none, .store 7 (.tmp 25) (.tmp 22), none⟩] [[], [0], [], [2], [], [4], [1, 0], [0, 1, 6], [7, 6, 3, 2, 1, 0], [6, 2, 1, 0, 7, 3, 8], [9, 8, 7, 6, 5, 4, 3, 2, 1, 0], [8, 7, 6, 4, 3, 2, 1, 0, 9, 5, 10]])
     (.seq (.region [⟨(some 26), .faddr 2 (.tmp 5), none⟩,
       ⟨none, .store 1 (.tmp 26) (.const (.string ⟨#[]⟩)), none⟩])
     (.seq (.region r_patch_formed_0)
     .ret))))
     (.seq (.region [⟨(some 51), .bin .eql (.tmp 12) (.const (.int .i64 2)), none⟩,
       ⟨(some 50), .mov (.tmp 51), none⟩])
     (.cond (.tmp 50)
       (.seq (.draw [⟨(some 52), .faddr 12 (.tmp 1), none⟩,
         ⟨(some 53), .load false 1 (.tmp 52), none⟩,
         ⟨(some 54), .faddr 13 (.tmp 1), none⟩,
         ⟨(some 55), .load false 1 (.tmp 54), none⟩,
         ⟨(some 56), .faddr 14 (.tmp 1), none⟩,
         ⟨(some 57), .load false 1 (.tmp 56), none⟩,
         ⟨(some 58), .faddr 12 (.tmp 3), none⟩,
         ⟨none, .store 1 (.tmp 58) (.tmp 53), none⟩,
         ⟨(some 59), .faddr 13 (.tmp 3), none⟩,
         ⟨none, .store 1 (.tmp 59) (.tmp 55), none⟩,
         ⟨(some 60), .faddr 14 (.tmp 3), none⟩,
         ⟨none, .store 1 (.tmp 60) (.tmp 57), none⟩] [[], [0], [], [2], [], [4], [1, 0], [0, 1, 6], [7, 6, 3, 2, 1, 0], [6, 2, 1, 0, 7, 3, 8], [9, 8, 7, 6, 5, 4, 3, 2, 1, 0], [8, 7, 6, 4, 3, 2, 1, 0, 9, 5, 10]])
       (.seq (.region [⟨(some 61), .load true 15 (.tmp 1), none⟩,
         ⟨(some 62), .load true 15 (.tmp 3), none⟩,
         ⟨(some 63), .seq false [1, 2, 2, 2, 2, 1, 2, 2, 2, 2, 2, 0, 1, 2, 2] (.tmp 61) (.tmp 62), none⟩,
         ⟨(some 64), .mov (.tmp 63), none⟩,
         ⟨(some 65), .faddr 13 (.tmp 1), (some (64, true))⟩,
         ⟨(some 66), .load false 1 (.tmp 65), (some (64, true))⟩,
         ⟨(some 67), .bin .neq (.tmp 66) (.const (.string ⟨#[]⟩)), (some (64, true))⟩,
         ⟨(some 68), .pick (.tmp 64) (.tmp 67) (.const (.bool false)), none⟩,
         ⟨(some 69), .mov (.tmp 68), none⟩,
         ⟨(some 70), .faddr 12 (.tmp 1), (some (69, true))⟩,
         ⟨(some 71), .load false 1 (.tmp 70), (some (69, true))⟩,
         ⟨(some 72), .bin .eql (.tmp 71) (.const (.int .i64 1)), (some (69, true))⟩,
         ⟨(some 73), .mov (.tmp 72), (some (69, true))⟩,
         ⟨(some 74), .faddr 12 (.tmp 1), (some (73, false))⟩,
         ⟨(some 75), .load false 1 (.tmp 74), (some (73, false))⟩,
         ⟨(some 76), .bin .eql (.tmp 75) (.const (.int .i64 2)), (some (73, false))⟩,
         ⟨(some 77), .pick (.tmp 73) (.const (.bool true)) (.tmp 76), (some (69, true))⟩,
         ⟨(some 78), .pick (.tmp 69) (.tmp 77) (.const (.bool false)), none⟩,
         ⟨(some 2), .mov (.tmp 78), none⟩])
       .ret))
       (.seq (.region [⟨(some 80), .bin .eql (.tmp 12) (.const (.int .i64 3)), none⟩,
         ⟨(some 79), .mov (.tmp 80), none⟩])
       (.cond (.tmp 79)
         (.seq (.region [⟨(some 81), .faddr 4 (.tmp 1), none⟩,
           ⟨(some 82), .load false 1 (.tmp 81), none⟩,
           ⟨(some 83), .faddr 4 (.tmp 3), none⟩,
           ⟨none, .store 1 (.tmp 83) (.tmp 82), none⟩])
         (.seq (.region r_patch_formed_1)
         .ret))
         (.seq (.region [⟨(some 95), .bin .eql (.tmp 12) (.const (.int .i64 4)), none⟩,
           ⟨(some 94), .mov (.tmp 95), none⟩])
         (.cond (.tmp 94)
           (.seq (.draw [⟨(some 96), .faddr 2 (.tmp 1), none⟩,
             ⟨(some 97), .load false 1 (.tmp 96), none⟩,
             ⟨(some 98), .faddr 3 (.tmp 1), none⟩,
             ⟨(some 99), .load false 1 (.tmp 98), none⟩,
             ⟨(some 100), .faddr 2 (.tmp 3), none⟩,
             ⟨none, .store 1 (.tmp 100) (.tmp 97), none⟩,
             ⟨(some 101), .faddr 3 (.tmp 3), none⟩,
             ⟨none, .store 1 (.tmp 101) (.tmp 99), none⟩] [[], [0], [], [2], [1, 0], [0, 1, 4], [5, 4, 3, 2, 1, 0], [4, 2, 1, 0, 5, 3, 6]])
           (.seq (.region [⟨(some 102), .load true 15 (.tmp 1), none⟩,
             ⟨(some 103), .load true 15 (.tmp 3), none⟩,
             ⟨(some 104), .seq false [1, 2, 2, 2, 2, 1, 2, 2, 2, 2, 2, 0, 1, 2, 2] (.tmp 102) (.tmp 103), none⟩,
             ⟨(some 2), .mov (.tmp 104), none⟩])
           .ret))
           (.seq (.seq (.region [⟨(some 106), .bin .eql (.tmp 12) (.const (.int .i64 5)), none⟩,
             ⟨(some 105), .mov (.tmp 106), none⟩])
           (.cond (.tmp 105)
             .skip
             (.region [⟨(some 107), .bin .eql (.tmp 12) (.const (.int .i64 6)), none⟩,
               ⟨(some 105), .mov (.tmp 107), none⟩])))
           (.cond (.tmp 105)
             (.seq (.region [⟨(some 108), .load true 15 (.tmp 1), none⟩,
               ⟨(some 109), .load true 15 (.tmp 3), none⟩,
               ⟨(some 110), .seq false [1, 2, 2, 2, 2, 1, 2, 2, 2, 2, 2, 0, 1, 2, 2] (.tmp 108) (.tmp 109), none⟩,
               ⟨(some 2), .mov (.tmp 110), none⟩])
             .ret)
             (.seq (.region [⟨(some 112), .bin .eql (.tmp 12) (.const (.int .i64 7)), none⟩,
               ⟨(some 111), .mov (.tmp 112), none⟩])
             (.cond (.tmp 111)
               (.seq (.draw [⟨(some 113), .faddr 5 (.tmp 1), none⟩,
                 ⟨(some 114), .faddr 4 (.tmp 113), none⟩,
                 ⟨(some 115), .load false 1 (.tmp 114), none⟩,
                 ⟨(some 116), .faddr 5 (.tmp 1), none⟩,
                 ⟨(some 117), .faddr 5 (.tmp 116), none⟩,
                 ⟨(some 118), .load false 1 (.tmp 117), none⟩,
                 ⟨(some 119), .faddr 5 (.tmp 3), none⟩,
                 ⟨(some 120), .faddr 4 (.tmp 119), none⟩,
                 ⟨none, .store 1 (.tmp 120) (.tmp 115), none⟩,
                 ⟨(some 121), .faddr 5 (.tmp 3), none⟩,
                 ⟨(some 122), .faddr 5 (.tmp 121), none⟩,
                 ⟨none, .store 1 (.tmp 122) (.tmp 118), none⟩] [[], [0], [0, 1], [], [3], [3, 4], [2, 1, 0], [2, 1, 0, 6], [6, 1, 0, 2, 7], [8, 7, 6, 5, 4, 3, 2, 1, 0], [8, 7, 6, 5, 4, 3, 2, 1, 0, 9], [9, 7, 6, 4, 3, 2, 1, 0, 8, 5, 10]])
               (.seq (.region [⟨(some 123), .load true 15 (.tmp 1), none⟩,
                 ⟨(some 124), .load true 15 (.tmp 3), none⟩,
                 ⟨(some 125), .seq false [1, 2, 2, 2, 2, 1, 2, 2, 2, 2, 2, 0, 1, 2, 2] (.tmp 123) (.tmp 124), none⟩,
                 ⟨(some 2), .mov (.tmp 125), none⟩])
               .ret))
               .skip))))))))))))))
  (.seq (.region [⟨(some 2), .mov (.const (.bool false)), none⟩])
  .ret)))))
def c_patch_formed (q : Nat → Nat) : AFun := ⟨126, b_patch_formed q, [(2, none)]⟩
/-- 67 (pandect/patch.change).insert -/
def b_patch_change_insert : ACode := (.seq (.region [⟨(some 1), .box (.tmp 0), none⟩,
    ⟨(some 2), .alloc [(.slice none 0 0)], none⟩,
    ⟨(some 3), .mov (.const (.int .i64 0)), none⟩])
  (.seq (.block 0 (.seq (.region [⟨(some 5), .faddr 16 (.tmp 1), none⟩,
     ⟨(some 6), .load false 1 (.tmp 5), none⟩,
     ⟨(some 7), .bin .geq (.tmp 6) (.const (.int .i64 0)), none⟩,
     ⟨(some 4), .mov (.tmp 7), none⟩])
   (.cond (.tmp 4)
     (.seq (.region [⟨(some 8), .build [(.slice none 0 0)] [], none⟩,
       ⟨none, .store 1 (.tmp 2) (.tmp 8), none⟩,
       ⟨(some 3), .mov (.const (.int .i64 9)), none⟩])
     .ret)
     (.seq (.region [⟨(some 10), .load true 17 (.tmp 1), none⟩,
       ⟨(some 11), .call 102 [(.tmp 10)], none⟩,
       ⟨(some 12), .un .not (.tmp 11), none⟩,
       ⟨(some 9), .mov (.tmp 12), none⟩])
     (.cond (.tmp 9)
       (.seq (.region [⟨(some 13), .build [(.slice none 0 0)] [], none⟩,
         ⟨none, .store 1 (.tmp 2) (.tmp 13), none⟩,
         ⟨(some 3), .mov (.const (.int .i64 14)), none⟩])
       .ret)
       (.seq (.region [⟨(some 15), .faddr 0 (.tmp 1), none⟩,
         ⟨(some 16), .faddr 0 (.tmp 15), none⟩,
         ⟨(some 17), .load false 1 (.tmp 16), none⟩,
         ⟨(some 18), .len (.tmp 17), none⟩,
         ⟨(some 19), .bin .geq (.tmp 18) (.const (.int .i64 2000)), none⟩,
         ⟨(some 14), .mov (.tmp 19), none⟩])
       (.cond (.tmp 14)
         (.seq (.region [⟨(some 20), .build [(.slice none 0 0)] [], none⟩,
           ⟨none, .store 1 (.tmp 2) (.tmp 20), none⟩,
           ⟨(some 3), .mov (.const (.int .i64 2)), none⟩])
         .ret)
         .skip)))))))
  (.seq (.region [⟨(some 21), .load true 17 (.tmp 1), none⟩,
    ⟨(some 22), .faddr 1 (.tmp 1), none⟩,
    ⟨(some 23), .faddr 5 (.tmp 22), none⟩,
    ⟨(some 24), .load true 7 (.tmp 23), none⟩,
    ⟨(some 25), .bsl 7 [(.tmp 24)], none⟩,
    ⟨(some 26), .call 103 [(.tmp 21), (.tmp 25)], none⟩,
    ⟨none, .store 1 (.tmp 2) (.tmp 26), none⟩,
    ⟨(some 3), .mov (.const (.int .i64 0)), none⟩])
  .ret)))
def c_patch_change_insert : AFun := ⟨27, b_patch_change_insert, [(2, some (true, 1)), (3, none)]⟩
/-- 68 (pandect/patch.change).words -/
def b_patch_change_words : ACode := (.seq (.region [⟨(some 1), .box (.tmp 0), none⟩,
    ⟨(some 2), .alloc [(.slice none 0 0)], none⟩,
    ⟨(some 3), .mov (.const (.int .i64 0)), none⟩])
  (.seq (.region [⟨(some 8), .faddr 0 (.tmp 1), none⟩,
    ⟨(some 9), .faddr 0 (.tmp 8), none⟩,
    ⟨(some 10), .load false 1 (.tmp 9), none⟩,
    ⟨(some 11), .faddr 16 (.tmp 1), none⟩,
    ⟨(some 12), .load false 1 (.tmp 11), none⟩,
    ⟨(some 13), .iaddr 7 (.tmp 10) (.tmp 12), none⟩,
    ⟨(some 14), .load true 7 (.tmp 13), none⟩,
    ⟨(some 4), .alloc [(.int .i64 0), (.string ⟨#[]⟩), (.string ⟨#[]⟩), (.string ⟨#[]⟩), (.string ⟨#[]⟩), (.string ⟨#[]⟩), (.bool false)], none⟩,
    ⟨none, .store 7 (.tmp 4) (.tmp 14), none⟩])
  (.seq (.region [⟨(some 15), .faddr 4 (.tmp 4), none⟩,
    ⟨(some 16), .faddr 5 (.tmp 4), none⟩,
    ⟨(some 17), .build [(.pointer none), (.pointer none)] [(0, 1, (.tmp 15)), (1, 1, (.tmp 16))], none⟩,
    ⟨(some 18), .faddr 1 (.tmp 1), none⟩,
    ⟨(some 19), .faddr 12 (.tmp 18), none⟩,
    ⟨(some 20), .load false 1 (.tmp 19), none⟩,
    ⟨(some 21), .bin .sub (.tmp 20) (.const (.int .i64 1)), none⟩,
    ⟨(some 22), .aidx false 2 1 (.tmp 17) (.tmp 21), none⟩,
    ⟨(some 5), .mov (.tmp 22), none⟩])
  (.seq (.draw [⟨(some 24), .mov (.tmp 5), none⟩,
    ⟨(some 25), .nilc (.tmp 24), none⟩,
    ⟨(some 26), .load false 1 (.tmp 25), none⟩,
    ⟨(some 27), .faddr 1 (.tmp 1), none⟩,
    ⟨(some 28), .faddr 13 (.tmp 27), none⟩,
    ⟨(some 29), .load false 1 (.tmp 28), none⟩,
    ⟨(some 30), .call 81 [(.tmp 26), (.tmp 29)], none⟩,
    ⟨(some 23), .mov (.tmp 30), none⟩,
    ⟨(some 31), .ext 0 (.tmp 23), none⟩,
    ⟨(some 32), .ext 1 (.tmp 23), none⟩,
    ⟨(some 6), .mov (.tmp 31), none⟩,
    ⟨(some 7), .mov (.tmp 32), none⟩] [[], [0], [0, 1], [], [3], [3, 4], [4, 3, 1, 0, 5, 2], [2, 5, 0, 1, 3, 4, 6], [6, 4, 3, 1, 0, 5, 2, 7], [6, 4, 3, 1, 0, 5, 2, 7], [7, 5, 4, 3, 2, 1, 0, 6, 8], [8, 7, 6, 5, 4, 3, 2, 1, 0, 10, 9]])
  (.seq (.seq (.region [⟨(some 33), .mov (.tmp 7), none⟩,
    ⟨(some 34), .un .not (.tmp 33), none⟩])
  (.cond (.tmp 34)
    (.seq (.region [⟨(some 35), .build [(.slice none 0 0)] [], none⟩,
      ⟨none, .store 1 (.tmp 2) (.tmp 35), none⟩,
      ⟨(some 3), .mov (.const (.int .i64 15)), none⟩])
    .ret)
    .skip))
  (.seq (.draw [⟨(some 36), .mov (.tmp 5), none⟩,
    ⟨(some 37), .mov (.tmp 5), none⟩,
    ⟨(some 38), .nilc (.tmp 37), none⟩,
    ⟨(some 39), .load false 1 (.tmp 38), none⟩,
    ⟨(some 40), .mov (.tmp 6), none⟩,
    ⟨(some 41), .sslc (.tmp 39) none (some (.tmp 40)), none⟩,
    ⟨(some 42), .faddr 1 (.tmp 1), none⟩,
    ⟨(some 43), .faddr 14 (.tmp 42), none⟩,
    ⟨(some 44), .load false 1 (.tmp 43), none⟩,
    ⟨(some 45), .bin .add (.tmp 41) (.tmp 44), none⟩,
    ⟨(some 46), .mov (.tmp 5), none⟩,
    ⟨(some 47), .nilc (.tmp 46), none⟩,
    ⟨(some 48), .load false 1 (.tmp 47), none⟩,
    ⟨(some 49), .mov (.tmp 6), none⟩,
    ⟨(some 50), .faddr 1 (.tmp 1), none⟩,
    ⟨(some 51), .faddr 13 (.tmp 50), none⟩,
    ⟨(some 52), .load false 1 (.tmp 51), none⟩,
    ⟨(some 53), .slen (.tmp 52), none⟩,
    ⟨(some 54), .bin .add (.tmp 49) (.tmp 53), none⟩,
    ⟨(some 55), .sslc (.tmp 48) (some (.tmp 54)) none, none⟩,
    ⟨(some 56), .bin .add (.tmp 45) (.tmp 55), none⟩,
    ⟨(some 57), .nilc (.tmp 36), none⟩,
    ⟨none, .store 1 (.tmp 57) (.tmp 56), none⟩] [[], [], [1], [1, 2], [], [2, 1, 4, 3], [], [6], [6, 7], [7, 6, 3, 4, 1, 2, 8, 5], [], [10], [10, 11], [], [], [14], [14, 15], [15, 14, 16], [16, 14, 15, 17, 13], [13, 17, 15, 14, 16, 11, 10, 18, 12], [12, 18, 10, 11, 16, 14, 15, 17, 13, 5, 8, 2, 1, 4, 3, 6, 7, 19, 9], [20, 19, 18, 17, 16, 15, 14, 13, 12, 11, 10, 9, 8, 7, 6, 5, 4, 3, 2, 1, 0], [19, 18, 17, 16, 15, 14, 13, 12, 11, 10, 9, 8, 7, 6, 5, 4, 3, 2, 1, 0, 20, 21]])
  (.seq (.seq (.region [⟨(some 58), .mov (.tmp 5), none⟩,
    ⟨(some 59), .nilc (.tmp 58), none⟩,
    ⟨(some 60), .load false 1 (.tmp 59), none⟩,
    ⟨(some 61), .slen (.tmp 60), none⟩,
    ⟨(some 62), .bin .gtr (.tmp 61) (.const (.int .i64 400)), none⟩])
  (.cond (.tmp 62)
    (.seq (.region [⟨(some 63), .build [(.slice none 0 0)] [], none⟩,
      ⟨none, .store 1 (.tmp 2) (.tmp 63), none⟩,
      ⟨(some 3), .mov (.const (.int .i64 2)), none⟩])
    .ret)
    .skip))
  (.seq (.region [⟨(some 64), .load true 17 (.tmp 1), none⟩,
    ⟨(some 65), .load true 7 (.tmp 4), none⟩,
    ⟨(some 66), .call 104 [(.tmp 64), (.tmp 65)], none⟩,
    ⟨none, .store 1 (.tmp 2) (.tmp 66), none⟩,
    ⟨(some 3), .mov (.const (.int .i64 0)), none⟩])
  .ret))))))))
def c_patch_change_words : AFun := ⟨67, b_patch_change_words, [(2, some (true, 1)), (3, none)]⟩
/-- 69 (pandect/patch.change).number -/
def b_patch_change_number : ACode := (.seq (.region [⟨(some 1), .box (.tmp 0), none⟩,
    ⟨(some 2), .alloc [(.slice none 0 0)], none⟩,
    ⟨(some 3), .mov (.const (.int .i64 0)), none⟩])
  (.seq (.region [⟨(some 5), .faddr 0 (.tmp 1), none⟩,
    ⟨(some 6), .faddr 0 (.tmp 5), none⟩,
    ⟨(some 7), .load false 1 (.tmp 6), none⟩,
    ⟨(some 8), .faddr 16 (.tmp 1), none⟩,
    ⟨(some 9), .load false 1 (.tmp 8), none⟩,
    ⟨(some 10), .iaddr 7 (.tmp 7) (.tmp 9), none⟩,
    ⟨(some 11), .load true 7 (.tmp 10), none⟩,
    ⟨(some 4), .alloc [(.int .i64 0), (.string ⟨#[]⟩), (.string ⟨#[]⟩), (.string ⟨#[]⟩), (.string ⟨#[]⟩), (.string ⟨#[]⟩), (.bool false)], none⟩,
    ⟨none, .store 7 (.tmp 4) (.tmp 11), none⟩])
  (.seq (.region [⟨(some 12), .faddr 1 (.tmp 1), none⟩,
    ⟨(some 13), .faddr 4 (.tmp 12), none⟩,
    ⟨(some 14), .load false 1 (.tmp 13), none⟩,
    ⟨(some 15), .faddr 3 (.tmp 4), none⟩,
    ⟨none, .store 1 (.tmp 15) (.tmp 14), none⟩])
  (.seq (.region [⟨(some 16), .load true 17 (.tmp 1), none⟩,
    ⟨(some 17), .load true 7 (.tmp 4), none⟩,
    ⟨(some 18), .call 104 [(.tmp 16), (.tmp 17)], none⟩,
    ⟨none, .store 1 (.tmp 2) (.tmp 18), none⟩,
    ⟨(some 3), .mov (.const (.int .i64 0)), none⟩])
  .ret))))
def c_patch_change_number : AFun := ⟨19, b_patch_change_number, [(2, some (true, 1)), (3, none)]⟩
/-- 70 (pandect/patch.change).move -/
def r_patch_change_move_0 : List AOper := [⟨(some 9), .load true 17 (.tmp 1), none⟩,
    ⟨(some 10), .call 102 [(.tmp 9)], none⟩,
    ⟨(some 11), .un .not (.tmp 10), none⟩,
    ⟨(some 12), .mov (.tmp 11), none⟩,
    ⟨(some 13), .faddr 2 (.tmp 4), (some (12, false))⟩,
    ⟨(some 14), .load false 1 (.tmp 13), (some (12, false))⟩,
    ⟨(some 15), .faddr 1 (.tmp 4), (some (12, false))⟩,
    ⟨(some 16), .load false 1 (.tmp 15), (some (12, false))⟩,
    ⟨(some 17), .bin .eql (.tmp 14) (.tmp 16), (some (12, false))⟩,
    ⟨(some 18), .pick (.tmp 12) (.const (.bool true)) (.tmp 17), none⟩,
    ⟨(some 19), .mov (.tmp 18), none⟩,
    ⟨(some 20), .faddr 3 (.tmp 4), (some (19, false))⟩,
    ⟨(some 21), .load false 1 (.tmp 20), (some (19, false))⟩,
    ⟨(some 22), .faddr 1 (.tmp 4), (some (19, false))⟩,
    ⟨(some 23), .load false 1 (.tmp 22), (some (19, false))⟩,
    ⟨(some 24), .bin .eql (.tmp 21) (.tmp 23), (some (19, false))⟩,
    ⟨(some 25), .pick (.tmp 19) (.const (.bool true)) (.tmp 24), none⟩,
    ⟨(some 26), .mov (.tmp 25), none⟩,
    ⟨(some 27), .faddr 2 (.tmp 4), (some (26, false))⟩,
    ⟨(some 28), .load false 1 (.tmp 27), (some (26, false))⟩,
    ⟨(some 29), .bin .neq (.tmp 28) (.const (.string ⟨#[]⟩)), (some (26, false))⟩,
    ⟨(some 30), .mov (.tmp 29), (some (26, false))⟩,
    ⟨(some 31), .faddr 0 (.tmp 1), (some (30, true))⟩,
    ⟨(some 32), .load true 1 (.tmp 31), (some (30, true))⟩,
    ⟨(some 33), .faddr 2 (.tmp 4), (some (30, true))⟩,
    ⟨(some 34), .load false 1 (.tmp 33), (some (30, true))⟩,
    ⟨(some 35), .faddr 1 (.tmp 4), (some (30, true))⟩,
    ⟨(some 36), .load false 1 (.tmp 35), (some (30, true))⟩,
    ⟨(some 37), .call 105 [(.tmp 32), (.tmp 34), (.tmp 36)], (some (30, true))⟩,
    ⟨(some 38), .pick (.tmp 30) (.tmp 37) (.const (.bool false)), (some (26, false))⟩,
    ⟨(some 39), .pick (.tmp 26) (.const (.bool true)) (.tmp 38), none⟩]
def b_patch_change_move : ACode := (.seq (.region [⟨(some 1), .box (.tmp 0), none⟩,
    ⟨(some 2), .alloc [(.slice none 0 0)], none⟩,
    ⟨(some 3), .mov (.const (.int .i64 0)), none⟩])
  (.seq (.region [⟨(some 7), .faddr 1 (.tmp 1), none⟩,
    ⟨(some 8), .load true 15 (.tmp 7), none⟩,
    ⟨(some 4), .alloc [(.int .i64 0), (.string ⟨#[]⟩), (.string ⟨#[]⟩), (.string ⟨#[]⟩), (.string ⟨#[]⟩), (.int .i64 0), (.string ⟨#[]⟩), (.string ⟨#[]⟩), (.string ⟨#[]⟩), (.string ⟨#[]⟩), (.string ⟨#[]⟩), (.bool false), (.int .i64 0), (.string ⟨#[]⟩), (.string ⟨#[]⟩)], none⟩,
    ⟨none, .store 15 (.tmp 4) (.tmp 8), none⟩])
  (.seq (.seq (.region r_patch_change_move_0)
  (.cond (.tmp 39)
    (.seq (.region [⟨(some 40), .build [(.slice none 0 0)] [], none⟩,
      ⟨none, .store 1 (.tmp 2) (.tmp 40), none⟩,
      ⟨(some 3), .mov (.const (.int .i64 14)), none⟩])
    .ret)
    .skip))
  (.seq (.region [⟨(some 41), .load true 17 (.tmp 1), none⟩,
    ⟨(some 42), .faddr 1 (.tmp 4), none⟩,
    ⟨(some 43), .load false 1 (.tmp 42), none⟩,
    ⟨(some 44), .call 106 [(.tmp 41), (.tmp 43)], none⟩,
    ⟨(some 5), .mov (.tmp 44), none⟩])
  (.seq (.region [⟨(some 45), .faddr 0 (.tmp 1), none⟩,
    ⟨(some 46), .faddr 0 (.tmp 45), none⟩,
    ⟨(some 47), .load false 1 (.tmp 46), none⟩,
    ⟨(some 48), .faddr 16 (.tmp 1), none⟩,
    ⟨(some 49), .load false 1 (.tmp 48), none⟩,
    ⟨(some 50), .faddr 16 (.tmp 1), none⟩,
    ⟨(some 51), .load false 1 (.tmp 50), none⟩,
    ⟨(some 52), .mov (.tmp 5), none⟩,
    ⟨(some 53), .bin .add (.tmp 51) (.tmp 52), none⟩,
    ⟨(some 54), .slc 7 (.tmp 47) (some (.tmp 49)) (some (.tmp 53)) none, none⟩,
    ⟨(some 55), .call 80 [(.tmp 54)], none⟩,
    ⟨(some 6), .mov (.tmp 55), none⟩])
  (.seq (.region [⟨(some 56), .mov (.tmp 6), none⟩,
    ⟨(some 57), .faddr 2 (.tmp 4), none⟩,
    ⟨(some 58), .load false 1 (.tmp 57), none⟩,
    ⟨(some 59), .iaddr 7 (.tmp 56) (.const (.int .i64 0)), none⟩,
    ⟨(some 60), .faddr 2 (.tmp 59), none⟩,
    ⟨none, .store 1 (.tmp 60) (.tmp 58), none⟩])
  (.seq (.draw [⟨(some 61), .faddr 0 (.tmp 1), none⟩,
    ⟨(some 62), .faddr 0 (.tmp 61), none⟩,
    ⟨(some 63), .load false 1 (.tmp 62), none⟩,
    ⟨(some 64), .call 80 [(.tmp 63)], none⟩,
    ⟨(some 65), .faddr 16 (.tmp 1), none⟩,
    ⟨(some 66), .load false 1 (.tmp 65), none⟩,
    ⟨(some 67), .faddr 16 (.tmp 1), none⟩,
    ⟨(some 68), .load false 1 (.tmp 67), none⟩,
    ⟨(some 69), .mov (.tmp 5), none⟩,
    ⟨(some 70), .bin .add (.tmp 68) (.tmp 69), none⟩,
    ⟨(some 71), .call 107 [(.tmp 64), (.tmp 66), (.tmp 70)], none⟩,
    ⟨(some 72), .build [(.slice none 0 0)] [(0, 1, (.tmp 71))], none⟩,
    ⟨(some 73), .faddr 0 (.tmp 1), none⟩,
    ⟨none, .store 1 (.tmp 73) (.tmp 72), none⟩] [[], [0], [0, 1], [1, 0, 2], [], [4], [], [6], [], [6, 8, 7], [7, 8, 6, 4, 2, 0, 1, 9, 5, 3], [3, 5, 9, 1, 0, 2, 4, 6, 8, 7, 10], [11, 10, 9, 8, 7, 6, 5, 4, 3, 2, 1, 0], [9, 8, 7, 6, 5, 4, 3, 2, 1, 0, 10, 11, 12]])
  (.seq (.region [⟨(some 74), .load true 17 (.tmp 1), none⟩,
    ⟨(some 75), .mov (.tmp 6), none⟩,
    ⟨(some 76), .call 103 [(.tmp 74), (.tmp 75)], none⟩,
    ⟨none, .store 1 (.tmp 2) (.tmp 76), none⟩,
    ⟨(some 3), .mov (.const (.int .i64 0)), none⟩])
  .ret))))))))
def c_patch_change_move : AFun := ⟨77, b_patch_change_move, [(2, some (true, 1)), (3, none)]⟩
/-- 71 (pandect/patch.change).gone -/
def b_patch_change_gone : ACode := (.seq (.region [⟨(some 1), .box (.tmp 0), none⟩,
    ⟨(some 2), .alloc [(.slice none 0 0)], none⟩,
    ⟨(some 3), .mov (.const (.int .i64 0)), none⟩])
  (.seq (.region [⟨(some 5), .faddr 0 (.tmp 1), none⟩,
    ⟨(some 6), .faddr 0 (.tmp 5), none⟩,
    ⟨(some 7), .load false 1 (.tmp 6), none⟩,
    ⟨(some 8), .faddr 16 (.tmp 1), none⟩,
    ⟨(some 9), .load false 1 (.tmp 8), none⟩,
    ⟨(some 10), .iaddr 7 (.tmp 7) (.tmp 9), none⟩,
    ⟨(some 11), .load true 7 (.tmp 10), none⟩,
    ⟨(some 4), .alloc [(.int .i64 0), (.string ⟨#[]⟩), (.string ⟨#[]⟩), (.string ⟨#[]⟩), (.string ⟨#[]⟩), (.string ⟨#[]⟩), (.bool false)], none⟩,
    ⟨none, .store 7 (.tmp 4) (.tmp 11), none⟩])
  (.seq (.region [⟨(some 12), .faddr 1 (.tmp 1), none⟩,
    ⟨(some 13), .faddr 0 (.tmp 12), none⟩,
    ⟨(some 14), .load false 1 (.tmp 13), none⟩,
    ⟨(some 15), .bin .eql (.tmp 14) (.const (.int .i64 5)), none⟩,
    ⟨(some 16), .faddr 6 (.tmp 4), none⟩,
    ⟨none, .store 1 (.tmp 16) (.tmp 15), none⟩])
  (.seq (.region [⟨(some 17), .load true 17 (.tmp 1), none⟩,
    ⟨(some 18), .load true 7 (.tmp 4), none⟩,
    ⟨(some 19), .call 104 [(.tmp 17), (.tmp 18)], none⟩,
    ⟨none, .store 1 (.tmp 2) (.tmp 19), none⟩,
    ⟨(some 3), .mov (.const (.int .i64 0)), none⟩])
  .ret))))
def c_patch_change_gone : AFun := ⟨20, b_patch_change_gone, [(2, some (true, 1)), (3, none)]⟩
/-- 72 (pandect/patch.change).replace -/
def b_patch_change_replace : ACode := (.seq (.region [⟨(some 1), .box (.tmp 0), none⟩,
    ⟨(some 2), .alloc [(.slice none 0 0)], none⟩,
    ⟨(some 3), .mov (.const (.int .i64 0)), none⟩])
  (.seq (.region [⟨(some 5), .faddr 0 (.tmp 1), none⟩,
    ⟨(some 6), .faddr 0 (.tmp 5), none⟩,
    ⟨(some 7), .load false 1 (.tmp 6), none⟩,
    ⟨(some 8), .faddr 16 (.tmp 1), none⟩,
    ⟨(some 9), .load false 1 (.tmp 8), none⟩,
    ⟨(some 10), .iaddr 7 (.tmp 7) (.tmp 9), none⟩,
    ⟨(some 11), .load true 7 (.tmp 10), none⟩,
    ⟨(some 4), .alloc [(.int .i64 0), (.string ⟨#[]⟩), (.string ⟨#[]⟩), (.string ⟨#[]⟩), (.string ⟨#[]⟩), (.string ⟨#[]⟩), (.bool false)], none⟩,
    ⟨none, .store 7 (.tmp 4) (.tmp 11), none⟩])
  (.seq (.draw [⟨(some 12), .faddr 1 (.tmp 1), none⟩,
    ⟨(some 13), .faddr 5 (.tmp 12), none⟩,
    ⟨(some 14), .faddr 4 (.tmp 13), none⟩,
    ⟨(some 15), .load false 1 (.tmp 14), none⟩,
    ⟨(some 16), .faddr 1 (.tmp 1), none⟩,
    ⟨(some 17), .faddr 5 (.tmp 16), none⟩,
    ⟨(some 18), .faddr 5 (.tmp 17), none⟩,
    ⟨(some 19), .load false 1 (.tmp 18), none⟩,
    ⟨(some 20), .faddr 4 (.tmp 4), none⟩,
    ⟨none, .store 1 (.tmp 20) (.tmp 15), none⟩,
    ⟨(some 21), .faddr 5 (.tmp 4), none⟩,
    ⟨none, .store 1 (.tmp 21) (.tmp 19), none⟩] [[], [0], [0, 1], [1, 0, 2], [], [4], [4, 5], [5, 4, 6], [3, 2, 1, 0], [2, 1, 0, 3, 8], [9, 8, 7, 6, 5, 4, 3, 2, 1, 0], [8, 6, 5, 4, 3, 2, 1, 0, 9, 7, 10]])
  (.seq (.seq (.region [⟨(some 22), .faddr 4 (.tmp 4), none⟩,
    ⟨(some 23), .load false 1 (.tmp 22), none⟩,
    ⟨(some 24), .slen (.tmp 23), none⟩,
    ⟨(some 25), .bin .gtr (.tmp 24) (.const (.int .i64 400)), none⟩,
    ⟨(some 26), .mov (.tmp 25), none⟩,
    ⟨(some 27), .faddr 5 (.tmp 4), (some (26, false))⟩,
    ⟨(some 28), .load false 1 (.tmp 27), (some (26, false))⟩,
    ⟨(some 29), .slen (.tmp 28), (some (26, false))⟩,
    ⟨(some 30), .bin .gtr (.tmp 29) (.const (.int .i64 400)), (some (26, false))⟩,
    ⟨(some 31), .pick (.tmp 26) (.const (.bool true)) (.tmp 30), none⟩])
  (.cond (.tmp 31)
    (.seq (.region [⟨(some 32), .build [(.slice none 0 0)] [], none⟩,
      ⟨none, .store 1 (.tmp 2) (.tmp 32), none⟩,
      ⟨(some 3), .mov (.const (.int .i64 2)), none⟩])
    .ret)
    .skip))
  (.seq (.region [⟨(some 33), .load true 17 (.tmp 1), none⟩,
    ⟨(some 34), .load true 7 (.tmp 4), none⟩,
    ⟨(some 35), .call 104 [(.tmp 33), (.tmp 34)], none⟩,
    ⟨none, .store 1 (.tmp 2) (.tmp 35), none⟩,
    ⟨(some 3), .mov (.const (.int .i64 0)), none⟩])
  .ret)))))
def c_patch_change_replace : AFun := ⟨36, b_patch_change_replace, [(2, some (true, 1)), (3, none)]⟩
/-- 73 (pandect/patch.change).item -/
def b_patch_change_item : ACode := (.seq (.region [⟨(some 2), .box (.tmp 0), none⟩,
    ⟨(some 4), .alloc [(.int .i64 0), (.string ⟨#[]⟩), (.string ⟨#[]⟩), (.string ⟨#[]⟩), (.string ⟨#[]⟩), (.string ⟨#[]⟩), (.bool false)], none⟩])
  (.seq (.seq (.region [⟨(some 6), .faddr 0 (.tmp 2), none⟩,
    ⟨(some 7), .load true 1 (.tmp 6), none⟩,
    ⟨(some 8), .mov (.tmp 1), none⟩,
    ⟨(some 9), .call 48 [(.tmp 7), (.tmp 8)], none⟩,
    ⟨(some 5), .mov (.tmp 9), none⟩])
  (.seq (.region [⟨(some 10), .mov (.tmp 5), none⟩,
    ⟨(some 11), .bin .geq (.tmp 10) (.const (.int .i64 0)), none⟩])
  (.cond (.tmp 11)
    (.seq (.region [⟨(some 12), .faddr 0 (.tmp 2), none⟩,
      ⟨(some 13), .faddr 0 (.tmp 12), none⟩,
      ⟨(some 14), .load false 1 (.tmp 13), none⟩,
      ⟨(some 15), .mov (.tmp 5), none⟩,
      ⟨(some 16), .iaddr 7 (.tmp 14) (.tmp 15), none⟩,
      ⟨(some 17), .load true 7 (.tmp 16), none⟩,
      ⟨none, .store 7 (.tmp 4) (.tmp 17), none⟩])
    .ret)
    .skip)))
  (.seq (.region [⟨(some 18), .build [(.int .i64 0), (.string ⟨#[]⟩), (.string ⟨#[]⟩), (.string ⟨#[]⟩), (.string ⟨#[]⟩), (.string ⟨#[]⟩), (.bool false)] [], none⟩,
    ⟨none, .store 7 (.tmp 4) (.tmp 18), none⟩])
  .ret)))
def c_patch_change_item : AFun := ⟨19, b_patch_change_item, [(4, some (true, 7))]⟩
/-- 74 pandect/code.walk -/
def r_code_walk_0 : List AOper := [⟨(some 19), .load true 7 (.tmp 8), none⟩,
       ⟨(some 20), .call 108 [(.tmp 19)], none⟩,
       ⟨(some 21), .un .not (.tmp 20), none⟩,
       ⟨(some 22), .mov (.tmp 21), none⟩,
       ⟨(some 23), .mov (.tmp 5), (some (22, false))⟩,
       ⟨(some 24), .faddr 1 (.tmp 8), (some (22, false))⟩,
       ⟨(some 25), .load false 1 (.tmp 24), (some (22, false))⟩,
       ⟨(some 26), .mget false [2] (.bool false) false (.tmp 23) (.tmp 25), (some (22, false))⟩,
       ⟨(some 27), .pick (.tmp 22) (.const (.bool true)) (.tmp 26), none⟩]
def l_code_walk_0 : ACode := (.seq (.region [⟨(some 15), .bin .lss (.tmp 14) (.tmp 13), none⟩])
    (.seq (.cond (.tmp 15)
      .skip
      (.exit 0))
    (.seq (.block 1 (.seq (.region [⟨(some 16), .mov (.tmp 14), none⟩,
       ⟨(some 17), .iaddr 7 (.tmp 12) (.tmp 14), none⟩,
       ⟨(some 18), .load true 7 (.tmp 17), none⟩,
       ⟨(some 8), .alloc [(.int .i64 0), (.string ⟨#[]⟩), (.string ⟨#[]⟩), (.string ⟨#[]⟩), (.string ⟨#[]⟩), (.string ⟨#[]⟩), (.bool false)], none⟩,
       ⟨(some 7), .mov (.tmp 16), none⟩,
       ⟨none, .store 7 (.tmp 8) (.tmp 18), none⟩])
     (.seq (.seq (.region r_code_walk_0)
     (.cond (.tmp 27)
       (.seq (.region [⟨(some 4), .mov (.const (.bool false)), none⟩])
       .ret)
       .skip))
     (.seq (.region [⟨(some 28), .mov (.tmp 5), none⟩,
       ⟨(some 29), .faddr 1 (.tmp 8), none⟩,
       ⟨(some 30), .load false 1 (.tmp 29), none⟩,
       ⟨none, .mset false [2] (.tmp 28) (.tmp 30) (.const (.bool true)), none⟩])
     (.seq (.region [⟨(some 9), .mov (.const (.int .i64 0)), none⟩])
     (.seq (.seq (.region [⟨(some 31), .faddr 2 (.tmp 8), none⟩,
       ⟨(some 32), .load false 1 (.tmp 31), none⟩,
       ⟨(some 33), .bin .neq (.tmp 32) (.const (.string ⟨#[]⟩)), none⟩])
     (.cond (.tmp 33)
       (.seq (.region [⟨(some 34), .mov (.tmp 6), none⟩,
         ⟨(some 35), .faddr 2 (.tmp 8), none⟩,
         ⟨(some 36), .load false 1 (.tmp 35), none⟩,
         ⟨(some 37), .call 109 [(.tmp 34), (.tmp 36)], none⟩,
         ⟨(some 38), .bin .add (.tmp 37) (.const (.int .i64 1)), none⟩,
         ⟨(some 9), .mov (.tmp 38), none⟩])
       (.seq (.region [⟨(some 39), .mov (.tmp 9), none⟩,
         ⟨(some 40), .bin .eql (.tmp 39) (.const (.int .i64 0)), none⟩])
       (.cond (.tmp 40)
         (.seq (.region [⟨(some 4), .mov (.const (.bool false)), none⟩])
         .ret)
         .skip)))
       .skip))
     (.seq (.region [⟨(some 41), .mov (.tmp 6), none⟩,
       ⟨(some 42), .mov (.tmp 9), none⟩,
       ⟨(some 43), .mov (.tmp 9), none⟩,
       ⟨(some 44), .slc 1 (.tmp 41) none (some (.tmp 42)) (some (.tmp 43)), none⟩,
       ⟨(some 6), .mov (.tmp 44), none⟩])
     (.seq (.region [⟨(some 45), .mov (.tmp 1), none⟩,
       ⟨(some 46), .mov (.tmp 7), none⟩,
       ⟨(some 47), .mov (.tmp 6), none⟩,
       ⟨(some 48), .callv (.tmp 45) [(.tmp 46), (.tmp 47)], none⟩])
     (.seq (.region [⟨(some 49), .faddr 0 (.tmp 8), none⟩,
       ⟨(some 50), .load false 1 (.tmp 49), none⟩,
       ⟨(some 51), .bin .eql (.tmp 50) (.const (.int .i64 1)), none⟩])
     (.cond (.tmp 51)
       (.region [⟨(some 52), .mov (.tmp 6), none⟩,
         ⟨(some 53), .faddr 1 (.tmp 8), none⟩,
         ⟨(some 54), .load false 1 (.tmp 53), none⟩,
         ⟨(some 55), .bsl 1 [(.tmp 54)], none⟩,
         ⟨(some 56), .app 1 16 (.tmp 52) (.tmp 55), none⟩,
         ⟨(some 6), .mov (.tmp 56), none⟩])
       .skip))))))))))
    (.region [⟨(some 57), .bin .add (.tmp 14) (.const (.int .i64 1)), none⟩,
      ⟨(some 14), .mov (.tmp 57), none⟩]))))
def b_code_walk : ACode := (.seq (.region [⟨(some 2), .box (.tmp 0), none⟩,
    ⟨(some 4), .mov (.const (.bool false)), none⟩])
  (.seq (.region [⟨(some 10), .mkmap, none⟩,
    ⟨(some 5), .mov (.tmp 10), none⟩])
  (.seq (.region [⟨(some 6), .mov (.const (.slice none 0 0)), none⟩])
  (.seq (.seq (.region [⟨(some 11), .faddr 0 (.tmp 2), none⟩,
    ⟨(some 12), .load false 1 (.tmp 11), none⟩,
    ⟨(some 13), .len (.tmp 12), none⟩,
    ⟨(some 14), .mov (.const (.int .i64 0)), none⟩])
  (.block 0 (.loop l_code_walk_0)))
  (.seq (.region [⟨(some 58), .faddr 0 (.tmp 2), none⟩,
    ⟨(some 59), .load false 1 (.tmp 58), none⟩,
    ⟨(some 60), .len (.tmp 59), none⟩,
    ⟨(some 61), .bin .leq (.tmp 60) (.const (.int .i64 2000)), none⟩,
    ⟨(some 4), .mov (.tmp 61), none⟩])
  .ret)))))
def c_code_walk : AFun := ⟨62, b_code_walk, [(4, none)]⟩
/-- 75 pandect/code.Validd1 -/
def b_code_Valid_d1 : ACode := .skip
def c_code_Valid_d1 : AFun := ⟨4, b_code_Valid_d1, []⟩
/-- 76 slices.IndexFunc[[]pandect/api.Item,pandect/api.Item] -/
def l_slices_IndexFunc_0 : ACode := (.seq (.region [⟨(some 9), .bin .lss (.tmp 8) (.tmp 7), none⟩])
    (.seq (.cond (.tmp 9)
      .skip
      (.exit 0))
    (.seq (.block 1 (.seq (.region [⟨(some 10), .mov (.tmp 8), none⟩,
       ⟨(some 5), .mov (.tmp 10), none⟩])
     (.seq (.region [⟨(some 11), .mov (.tmp 1), none⟩,
       ⟨(some 12), .mov (.tmp 0), none⟩,
       ⟨(some 13), .mov (.tmp 5), none⟩,
       ⟨(some 14), .iaddr 7 (.tmp 12) (.tmp 13), none⟩,
       ⟨(some 15), .load true 7 (.tmp 14), none⟩,
       ⟨(some 16), .callv (.tmp 11) [(.tmp 15)], none⟩])
     (.cond (.tmp 16)
       (.seq (.region [⟨(some 17), .mov (.tmp 5), none⟩,
         ⟨(some 4), .mov (.tmp 17), none⟩])
       .ret)
       .skip))))
    (.region [⟨(some 18), .bin .add (.tmp 8) (.const (.int .i64 1)), none⟩,
      ⟨(some 8), .mov (.tmp 18), none⟩]))))
def b_slices_IndexFunc : ACode := (.seq (.region [⟨(some 4), .mov (.const (.int .i64 0)), none⟩])
  (.seq (.seq (.region [⟨(some 6), .mov (.tmp 0), none⟩,
    ⟨(some 7), .len (.tmp 6), none⟩,
    ⟨(some 8), .mov (.const (.int .i64 0)), none⟩])
  (.block 0 (.loop l_slices_IndexFunc_0)))
  (.seq (.region [⟨(some 4), .mov (.const (.int .i64 (-1))), none⟩])
  .ret)))
def c_slices_IndexFunc : AFun := ⟨19, b_slices_IndexFunc, [(4, none)]⟩
/-- 77 pandect/code.Findd1 -/
def b_code_Find_d1 : ACode := (.seq (.region [⟨(some 2), .box (.tmp 0), none⟩,
    ⟨(some 3), .mov (.const (.bool false)), none⟩])
  (.seq (.region [⟨(some 4), .faddr 1 (.tmp 2), none⟩,
    ⟨(some 5), .load false 1 (.tmp 4), none⟩,
    ⟨(some 6), .load false 1 (.tmp 1), none⟩,
    ⟨(some 7), .bin .eql (.tmp 5) (.tmp 6), none⟩,
    ⟨(some 3), .mov (.tmp 7), none⟩])
  .ret))
def c_code_Find_d1 : AFun := ⟨8, b_code_Find_d1, [(3, none)]⟩
/-- 78 pandect/code.Belowd1 -/
def b_code_Below_d1 : ACode := (.seq (.region [⟨(some 7), .mov (.tmp 1), none⟩,
    ⟨(some 8), .load false 1 (.tmp 2), none⟩,
    ⟨(some 9), .call 79 [(.tmp 7), (.tmp 8)], none⟩])
  (.cond (.tmp 9)
    (.draw [⟨(some 10), .load false 1 (.tmp 3), none⟩,
      ⟨(some 11), .faddr 0 (.tmp 4), none⟩,
      ⟨(some 12), .load false 1 (.tmp 11), none⟩,
      ⟨(some 13), .mov (.tmp 0), none⟩,
      ⟨(some 14), .iaddr 7 (.tmp 12) (.tmp 13), none⟩,
      ⟨(some 15), .faddr 1 (.tmp 14), none⟩,
      ⟨(some 16), .load false 1 (.tmp 15), none⟩,
      ⟨(some 17), .bsl 1 [(.tmp 16)], none⟩,
      ⟨(some 18), .app 1 16 (.tmp 10) (.tmp 17), none⟩,
      ⟨none, .store 1 (.tmp 3) (.tmp 18), none⟩] [[], [], [1], [], [1, 3, 2], [2, 3, 1, 4], [4, 1, 3, 2, 5], [5, 2, 3, 1, 4, 6], [6, 4, 1, 3, 2, 5, 7, 0], [7, 6, 5, 4, 3, 2, 1, 0, 8]])
    .skip))
def c_code_Below_d1 : AFun := ⟨19, b_code_Below_d1, []⟩
/-- 79 slices.Contains[[]string,string] -/
def b_slices_Contains : ACode := (.seq (.region [⟨(some 4), .mov (.const (.bool false)), none⟩])
  (.seq (.region [⟨(some 5), .mov (.tmp 0), none⟩,
    ⟨(some 6), .mov (.tmp 1), none⟩,
    ⟨(some 7), .call 109 [(.tmp 5), (.tmp 6)], none⟩,
    ⟨(some 8), .bin .geq (.tmp 7) (.const (.int .i64 0)), none⟩,
    ⟨(some 4), .mov (.tmp 8), none⟩])
  .ret))
def c_slices_Contains : AFun := ⟨9, b_slices_Contains, [(4, none)]⟩
/-- 80 slices.Clone[[]pandect/api.Item,pandect/api.Item] -/
def b_slices_Clone : ACode := (.seq (.region [⟨(some 2), .mov (.const (.slice none 0 0)), none⟩])
  (.seq (.seq (.region [⟨(some 3), .mov (.tmp 0), none⟩,
    ⟨(some 4), .snil false (.tmp 3), none⟩])
  (.cond (.tmp 4)
    (.seq (.region [⟨(some 2), .mov (.const (.slice none 0 0)), none⟩])
    .ret)
    .skip))
  (.seq (.region [⟨(some 5), .bsl 7 [], none⟩,
    ⟨(some 6), .mov (.tmp 0), none⟩,
    ⟨(some 7), .app 7 96 (.tmp 5) (.tmp 6), none⟩,
    ⟨(some 2), .mov (.tmp 7), none⟩])
  .ret)))
def c_slices_Clone : AFun := ⟨8, b_slices_Clone, [(2, none)]⟩
/-- 81 pandect/patch.once -/
def r_patch_once_0 : List AOper := [⟨(some 10), .mov (.tmp 6), none⟩,
    ⟨(some 11), .mov (.tmp 6), none⟩,
    ⟨(some 12), .bin .geq (.tmp 11) (.const (.int .i64 0)), none⟩,
    ⟨(some 13), .mov (.tmp 12), none⟩,
    ⟨(some 14), .mov (.tmp 0), (some (13, true))⟩,
    ⟨(some 15), .mov (.tmp 1), (some (13, true))⟩,
    ⟨(some 16), .call 111 [(.tmp 14), (.tmp 15)], (some (13, true))⟩,
    ⟨(some 17), .mov (.tmp 6), (some (13, true))⟩,
    ⟨(some 18), .bin .eql (.tmp 16) (.tmp 17), (some (13, true))⟩,
    ⟨(some 19), .pick (.tmp 13) (.tmp 18) (.const (.bool false)), none⟩,
    ⟨(some 4), .mov (.tmp 10), none⟩,
    ⟨(some 5), .mov (.tmp 19), none⟩]
def b_patch_once : ACode := (.seq (.region [⟨(some 4), .mov (.const (.int .i64 0)), none⟩,
    ⟨(some 5), .mov (.const (.bool false)), none⟩])
  (.seq (.region [⟨(some 7), .mov (.tmp 0), none⟩,
    ⟨(some 8), .mov (.tmp 1), none⟩,
    ⟨(some 9), .call 110 [(.tmp 7), (.tmp 8)], none⟩,
    ⟨(some 6), .mov (.tmp 9), none⟩])
  (.seq (.region r_patch_once_0)
  .ret)))
def c_patch_once : AFun := ⟨20, b_patch_once, [(4, none), (5, none)]⟩
/-- 85 pandect/pandectref18.Find -/
def l_pandectref18_Find_0 : ACode := (.seq (.seq (.region [⟨(some 6), .mov (.tmp 5), none⟩,
      ⟨(some 7), .faddr 0 (.tmp 2), none⟩,
      ⟨(some 8), .load false 1 (.tmp 7), none⟩,
      ⟨(some 9), .len (.tmp 8), none⟩,
      ⟨(some 10), .bin .lss (.tmp 6) (.tmp 9), none⟩])
    (.cond (.tmp 10)
      .skip
      (.exit 0)))
    (.seq (.block 1 (.seq (.region [⟨(some 13), .faddr 0 (.tmp 2), none⟩,
       ⟨(some 14), .load false 1 (.tmp 13), none⟩,
       ⟨(some 15), .mov (.tmp 5), none⟩,
       ⟨(some 16), .iaddr 7 (.tmp 14) (.tmp 15), none⟩,
       ⟨(some 17), .faddr 1 (.tmp 16), none⟩,
       ⟨(some 18), .load false 1 (.tmp 17), none⟩,
       ⟨(some 19), .mov (.tmp 1), none⟩,
       ⟨(some 20), .bin .eql (.tmp 18) (.tmp 19), none⟩])
     (.cond (.tmp 20)
       (.seq (.region [⟨(some 21), .mov (.tmp 5), none⟩,
         ⟨(some 4), .mov (.tmp 21), none⟩])
       .ret)
       .skip)))
    (.region [⟨(some 11), .mov (.tmp 5), none⟩,
      ⟨(some 12), .bin .add (.tmp 11) (.const (.int .i64 1)), none⟩,
      ⟨(some 5), .mov (.tmp 12), none⟩])))
def b_pandectref18_Find : ACode := (.seq (.region [⟨(some 2), .box (.tmp 0), none⟩,
    ⟨(some 4), .mov (.const (.int .i64 0)), none⟩])
  (.seq (.seq (.region [⟨(some 5), .mov (.const (.int .i64 0)), none⟩])
  (.block 0 (.loop l_pandectref18_Find_0)))
  (.seq (.region [⟨(some 4), .mov (.const (.int .i64 (-1))), none⟩])
  .ret)))
def c_pandectref18_Find : AFun := ⟨22, b_pandectref18_Find, [(4, none)]⟩
/-- 101 pandect/patch.formedd1 -/
def b_patch_formed_d1 : ACode := (.seq (.region [⟨(some 1), .box (.tmp 0), none⟩,
    ⟨(some 2), .mov (.const (.bool false)), none⟩])
  (.seq (.region [⟨(some 3), .load true 7 (.tmp 1), none⟩,
    ⟨(some 4), .bsl 7 [(.tmp 3)], none⟩,
    ⟨(some 5), .build [(.slice none 0 0)] [(0, 1, (.tmp 4))], none⟩,
    ⟨(some 6), .call 47 [(.tmp 5)], none⟩,
    ⟨(some 2), .mov (.tmp 6), none⟩])
  .ret))
def c_patch_formed_d1 : AFun := ⟨7, b_patch_formed_d1, [(2, none)]⟩
/-- 102 (pandect/patch.change).exists -/
def r_patch_change_exists_0 : List AOper := [⟨(some 6), .faddr 2 (.tmp 3), none⟩,
    ⟨(some 7), .load false 1 (.tmp 6), none⟩,
    ⟨(some 8), .bin .eql (.tmp 7) (.const (.string ⟨#[]⟩)), none⟩,
    ⟨(some 9), .mov (.tmp 8), none⟩,
    ⟨(some 10), .load true 17 (.tmp 1), (some (9, false))⟩,
    ⟨(some 11), .faddr 2 (.tmp 3), (some (9, false))⟩,
    ⟨(some 12), .load false 1 (.tmp 11), (some (9, false))⟩,
    ⟨(some 13), .call 73 [(.tmp 10), (.tmp 12)], (some (9, false))⟩,
    ⟨(some 14), .field false 0 1 (.tmp 13), (some (9, false))⟩,
    ⟨(some 15), .bin .eql (.tmp 14) (.const (.int .i64 1)), (some (9, false))⟩,
    ⟨(some 16), .pick (.tmp 9) (.const (.bool true)) (.tmp 15), none⟩,
    ⟨(some 17), .mov (.tmp 16), none⟩,
    ⟨(some 18), .faddr 3 (.tmp 3), (some (17, true))⟩,
    ⟨(some 19), .load false 1 (.tmp 18), (some (17, true))⟩,
    ⟨(some 20), .bin .eql (.tmp 19) (.const (.string ⟨#[]⟩)), (some (17, true))⟩,
    ⟨(some 21), .mov (.tmp 20), (some (17, true))⟩,
    ⟨(some 22), .load true 17 (.tmp 1), (some (21, false))⟩,
    ⟨(some 23), .faddr 3 (.tmp 3), (some (21, false))⟩,
    ⟨(some 24), .load false 1 (.tmp 23), (some (21, false))⟩,
    ⟨(some 25), .call 73 [(.tmp 22), (.tmp 24)], (some (21, false))⟩,
    ⟨(some 26), .field false 0 1 (.tmp 25), (some (21, false))⟩,
    ⟨(some 27), .bin .neq (.tmp 26) (.const (.int .i64 0)), (some (21, false))⟩,
    ⟨(some 28), .mov (.tmp 27), (some (21, false))⟩,
    ⟨(some 29), .load true 17 (.tmp 1), (some (28, true))⟩,
    ⟨(some 30), .faddr 3 (.tmp 3), (some (28, true))⟩,
    ⟨(some 31), .load false 1 (.tmp 30), (some (28, true))⟩,
    ⟨(some 32), .call 73 [(.tmp 29), (.tmp 31)], (some (28, true))⟩,
    ⟨(some 33), .field false 2 1 (.tmp 32), (some (28, true))⟩,
    ⟨(some 34), .faddr 2 (.tmp 3), (some (28, true))⟩,
    ⟨(some 35), .load false 1 (.tmp 34), (some (28, true))⟩,
    ⟨(some 36), .bin .eql (.tmp 33) (.tmp 35), (some (28, true))⟩,
    ⟨(some 37), .pick (.tmp 28) (.tmp 36) (.const (.bool false)), (some (21, false))⟩,
    ⟨(some 38), .pick (.tmp 21) (.const (.bool true)) (.tmp 37), (some (17, true))⟩,
    ⟨(some 39), .pick (.tmp 17) (.tmp 38) (.const (.bool false)), none⟩,
    ⟨(some 2), .mov (.tmp 39), none⟩]
def b_patch_change_exists : ACode := (.seq (.region [⟨(some 1), .box (.tmp 0), none⟩,
    ⟨(some 2), .mov (.const (.bool false)), none⟩])
  (.seq (.region [⟨(some 4), .faddr 1 (.tmp 1), none⟩,
    ⟨(some 5), .load true 15 (.tmp 4), none⟩,
    ⟨(some 3), .alloc [(.int .i64 0), (.string ⟨#[]⟩), (.string ⟨#[]⟩), (.string ⟨#[]⟩), (.string ⟨#[]⟩), (.int .i64 0), (.string ⟨#[]⟩), (.string ⟨#[]⟩), (.string ⟨#[]⟩), (.string ⟨#[]⟩), (.string ⟨#[]⟩), (.bool false), (.int .i64 0), (.string ⟨#[]⟩), (.string ⟨#[]⟩)], none⟩,
    ⟨none, .store 15 (.tmp 3) (.tmp 5), none⟩])
  (.seq (.draw r_patch_change_exists_0 [[], [0], [0, 1], [1, 0, 2], [2, 0, 1, 3], [2, 0, 1, 3], [1, 0, 2, 3, 5], [5, 1, 0, 2, 3, 6, 4], [4, 6, 2, 0, 1, 5, 3, 7], [7, 5, 1, 0, 2, 6, 4, 3, 8], [8, 4, 6, 5, 7, 2, 0, 1, 9, 3], [3, 9, 1, 0, 2, 5, 6, 4, 8, 7, 10], [10, 7, 8, 4, 6, 5, 2, 0, 1, 9, 3, 11], [3, 9, 1, 0, 2, 5, 6, 4, 8, 7, 10, 11, 12], [12, 10, 7, 8, 4, 6, 5, 2, 0, 1, 9, 3, 11, 13], [13, 3, 9, 1, 0, 2, 5, 6, 4, 8, 7, 10, 12, 11, 14], [14, 11, 12, 10, 7, 8, 4, 6, 5, 2, 0, 1, 9, 3, 13, 15], [14, 11, 12, 10, 7, 8, 4, 6, 5, 2, 0, 1, 9, 3, 13, 15], [13, 3, 9, 1, 0, 2, 5, 6, 4, 8, 7, 10, 12, 11, 14, 15, 17], [17, 13, 3, 9, 1, 0, 2, 5, 6, 4, 8, 7, 10, 12, 11, 14, 15, 18, 16], [16, 18, 14, 11, 12, 10, 7, 8, 4, 6, 5, 2, 0, 1, 9, 3, 13, 17, 15, 19], [19, 17, 13, 3, 9, 1, 0, 2, 5, 6, 4, 8, 7, 10, 12, 11, 14, 18, 16, 15, 20], [20, 16, 18, 14, 11, 12, 10, 7, 8, 4, 6, 5, 2, 0, 1, 9, 3, 13, 17, 15, 19, 21], [21, 19, 15, 17, 13, 3, 9, 1, 0, 2, 5, 6, 4, 8, 7, 10, 12, 11, 14, 18, 16, 20, 22], [21, 19, 15, 17, 13, 3, 9, 1, 0, 2, 5, 6, 4, 8, 7, 10, 12, 11, 14, 18, 16, 20, 22], [20, 16, 18, 14, 11, 12, 10, 7, 8, 4, 6, 5, 2, 0, 1, 9, 3, 13, 17, 15, 19, 21, 22, 24], [24, 20, 16, 18, 14, 11, 12, 10, 7, 8, 4, 6, 5, 2, 0, 1, 9, 3, 13, 17, 15, 19, 21, 22, 25, 23], [23, 25, 21, 19, 15, 17, 13, 3, 9, 1, 0, 2, 5, 6, 4, 8, 7, 10, 12, 11, 14, 18, 16, 20, 24, 22, 26], [21, 19, 15, 17, 13, 3, 9, 1, 0, 2, 5, 6, 4, 8, 7, 10, 12, 11, 14, 18, 16, 20, 22], [20, 16, 18, 14, 11, 12, 10, 7, 8, 4, 6, 5, 2, 0, 1, 9, 3, 13, 17, 15, 19, 21, 22, 28], [28, 26, 24, 20, 16, 18, 14, 11, 12, 10, 7, 8, 4, 6, 5, 2, 0, 1, 9, 3, 13, 17, 15, 19, 21, 25, 23, 22, 29, 27], [27, 29, 23, 25, 24, 26, 28, 21, 19, 17, 13, 3, 9, 1, 0, 2, 5, 6, 4, 8, 7, 10, 12, 11, 14, 18, 16, 20, 15, 30, 22], [22, 30, 20, 16, 18, 17, 19, 21, 28, 26, 24, 25, 23, 29, 27, 14, 12, 10, 7, 8, 4, 6, 5, 2, 0, 1, 9, 3, 13, 11, 31, 15], [15, 31, 13, 12, 14, 27, 29, 23, 25, 24, 26, 28, 21, 19, 17, 18, 16, 20, 30, 22, 10, 7, 8, 4, 6, 5, 2, 0, 1, 9, 3, 32, 11], [32, 31, 30, 29, 28, 27, 25, 24, 23, 22, 21, 20, 19, 18, 17, 16, 15, 14, 13, 12, 11, 10, 9, 8, 7, 6, 5, 4, 3, 2, 1, 0, 26, 33]])
  .ret)))
def c_patch_change_exists : AFun := ⟨40, b_patch_change_exists, [(2, none)]⟩
/-- 103 (pandect/patch.change).put -/
def b_patch_change_put : ACode := (.seq (.region [⟨(some 2), .box (.tmp 0), none⟩,
    ⟨(some 4), .alloc [(.slice none 0 0)], none⟩])
  (.seq (.region [⟨(some 5), .mov (.const (.int .i64 0)), none⟩])
  (.seq (.seq (.region [⟨(some 6), .faddr 1 (.tmp 2), none⟩,
    ⟨(some 7), .faddr 3 (.tmp 6), none⟩,
    ⟨(some 8), .load false 1 (.tmp 7), none⟩,
    ⟨(some 9), .bin .neq (.tmp 8) (.const (.string ⟨#[]⟩)), none⟩])
  (.cond (.tmp 9)
    (.draw [⟨(some 10), .faddr 0 (.tmp 2), none⟩,
      ⟨(some 11), .load true 1 (.tmp 10), none⟩,
      ⟨(some 12), .faddr 1 (.tmp 2), none⟩,
      ⟨(some 13), .faddr 3 (.tmp 12), none⟩,
      ⟨(some 14), .load false 1 (.tmp 13), none⟩,
      ⟨(some 15), .call 48 [(.tmp 11), (.tmp 14)], none⟩,
      ⟨(some 16), .load true 17 (.tmp 2), none⟩,
      ⟨(some 17), .faddr 1 (.tmp 2), none⟩,
      ⟨(some 18), .faddr 3 (.tmp 17), none⟩,
      ⟨(some 19), .load false 1 (.tmp 18), none⟩,
      ⟨(some 20), .call 106 [(.tmp 16), (.tmp 19)], none⟩,
      ⟨(some 21), .bin .add (.tmp 15) (.tmp 20), none⟩,
      ⟨(some 5), .mov (.tmp 21), none⟩] [[], [0], [], [2], [2, 3], [3, 2, 0, 4, 1], [], [], [7], [7, 8], [1, 4, 0, 2, 3, 8, 7, 5, 9, 6], [6, 9, 7, 8, 1, 4, 0, 2, 3, 10, 5], [9, 8, 7, 6, 5, 4, 3, 2, 1, 0, 10, 11]])
    (.seq (.region [⟨(some 22), .faddr 1 (.tmp 2), none⟩,
      ⟨(some 23), .faddr 2 (.tmp 22), none⟩,
      ⟨(some 24), .load false 1 (.tmp 23), none⟩,
      ⟨(some 25), .bin .neq (.tmp 24) (.const (.string ⟨#[]⟩)), none⟩])
    (.cond (.tmp 25)
      (.region [⟨(some 26), .faddr 0 (.tmp 2), none⟩,
        ⟨(some 27), .load true 1 (.tmp 26), none⟩,
        ⟨(some 28), .faddr 1 (.tmp 2), none⟩,
        ⟨(some 29), .faddr 2 (.tmp 28), none⟩,
        ⟨(some 30), .load false 1 (.tmp 29), none⟩,
        ⟨(some 31), .call 48 [(.tmp 27), (.tmp 30)], none⟩,
        ⟨(some 32), .bin .add (.tmp 31) (.const (.int .i64 1)), none⟩,
        ⟨(some 5), .mov (.tmp 32), none⟩])
      .skip))))
  (.seq (.region [⟨(some 33), .faddr 0 (.tmp 2), none⟩,
    ⟨(some 34), .faddr 0 (.tmp 33), none⟩,
    ⟨(some 35), .load false 1 (.tmp 34), none⟩,
    ⟨(some 36), .call 80 [(.tmp 35)], none⟩,
    ⟨(some 37), .mov (.tmp 5), none⟩,
    ⟨(some 38), .mov (.tmp 1), none⟩,
    ⟨(some 39), .call 122 [(.tmp 36), (.tmp 37), (.tmp 38)], none⟩,
    ⟨(some 40), .build [(.slice none 0 0)] [(0, 1, (.tmp 39))], none⟩,
    ⟨none, .store 1 (.tmp 4) (.tmp 40), none⟩])
  .ret))))
def c_patch_change_put : AFun := ⟨41, b_patch_change_put, [(4, some (true, 1))]⟩
/-- 104 (pandect/patch.change).with -/
def b_patch_change_with : ACode := (.seq (.region [⟨(some 2), .box (.tmp 0), none⟩,
    ⟨(some 3), .box (.tmp 1), none⟩,
    ⟨(some 4), .alloc [(.slice none 0 0)], none⟩])
  (.seq (.region [⟨(some 6), .faddr 0 (.tmp 2), none⟩,
    ⟨(some 7), .faddr 0 (.tmp 6), none⟩,
    ⟨(some 8), .load false 1 (.tmp 7), none⟩,
    ⟨(some 9), .call 80 [(.tmp 8)], none⟩,
    ⟨(some 5), .mov (.tmp 9), none⟩])
  (.seq (.region [⟨(some 10), .mov (.tmp 5), none⟩,
    ⟨(some 11), .faddr 16 (.tmp 2), none⟩,
    ⟨(some 12), .load false 1 (.tmp 11), none⟩,
    ⟨(some 13), .load true 7 (.tmp 3), none⟩,
    ⟨(some 14), .iaddr 7 (.tmp 10) (.tmp 12), none⟩,
    ⟨none, .store 7 (.tmp 14) (.tmp 13), none⟩])
  (.seq (.region [⟨(some 15), .mov (.tmp 5), none⟩,
    ⟨(some 16), .build [(.slice none 0 0)] [(0, 1, (.tmp 15))], none⟩,
    ⟨none, .store 1 (.tmp 4) (.tmp 16), none⟩])
  .ret))))
def c_patch_change_with : AFun := ⟨17, b_patch_change_with, [(4, some (true, 1))]⟩
/-- 105 pandect/code.Under -/
def b_code_Under (q : Nat → Nat) : ACode := (.seq (.region [⟨(some 3), .box (.tmp 0), none⟩,
    ⟨(some 4), .box (.tmp 1), none⟩,
    ⟨(some 5), .box (.tmp 2), none⟩,
    ⟨(some 6), .mov (.const (.bool false)), none⟩])
  (.seq (.region [⟨(some 7), .alloc [(.bool false)], none⟩,
    ⟨none, .store 1 (.tmp 7) (.const (.bool false)), none⟩])
  (.seq (.region [⟨(some 9), .load true 1 (.tmp 3), none⟩,
    ⟨(some 10), .mkf (q 123) [] [(.tmp 3), (.tmp 4), (.tmp 5), (.tmp 7)], none⟩,
    ⟨(some 11), .call 74 [(.tmp 9), (.tmp 10)], none⟩,
    ⟨(some 8), .mov (.tmp 11), none⟩])
  (.seq (.region [⟨(some 12), .mov (.tmp 8), none⟩,
    ⟨(some 13), .mov (.tmp 12), none⟩,
    ⟨(some 14), .load false 1 (.tmp 7), (some (13, true))⟩,
    ⟨(some 15), .pick (.tmp 13) (.tmp 14) (.const (.bool false)), none⟩,
    ⟨(some 6), .mov (.tmp 15), none⟩])
  .ret))))
def c_code_Under (q : Nat → Nat) : AFun := ⟨16, b_code_Under q, [(6, none)]⟩
/-- 106 (pandect/patch.change).size -/
def b_patch_change_size : ACode := (.seq (.region [⟨(some 2), .box (.tmp 0), none⟩,
    ⟨(some 4), .mov (.const (.int .i64 0)), none⟩])
  (.seq (.region [⟨(some 5), .faddr 0 (.tmp 2), none⟩,
    ⟨(some 6), .load true 1 (.tmp 5), none⟩,
    ⟨(some 7), .mov (.tmp 1), none⟩,
    ⟨(some 8), .call 49 [(.tmp 6), (.tmp 7)], none⟩,
    ⟨(some 9), .len (.tmp 8), none⟩,
    ⟨(some 10), .bin .add (.const (.int .i64 1)) (.tmp 9), none⟩,
    ⟨(some 4), .mov (.tmp 10), none⟩])
  .ret))
def c_patch_change_size : AFun := ⟨11, b_patch_change_size, [(4, none)]⟩
/-- 107 slices.Delete[[]pandect/api.Item,pandect/api.Item] -/
def b_slices_Delete (h : Nat → Nat → Op) : ACode := (.seq (.region [⟨(some 6), .mov (.const (.slice none 0 0)), none⟩])
  (.seq (.region [⟨(some 8), .mov (.tmp 0), none⟩,
    ⟨(some 9), .mov (.tmp 1), none⟩,
    ⟨(some 10), .mov (.tmp 2), none⟩,
    ⟨(some 11), .mov (.tmp 0), none⟩,
    ⟨(some 12), .len (.tmp 11), none⟩,
    ⟨(some 13), .slc 7 (.tmp 8) (some (.tmp 9)) (some (.tmp 10)) (some (.tmp 12)), none⟩])
  (.seq (.seq (.region [⟨(some 14), .mov (.tmp 1), none⟩,
    ⟨(some 15), .mov (.tmp 2), none⟩,
    ⟨(some 16), .bin .eql (.tmp 14) (.tmp 15), none⟩])
  (.cond (.tmp 16)
    (.seq (.region [⟨(some 17), .mov (.tmp 0), none⟩,
      ⟨(some 6), .mov (.tmp 17), none⟩])
    .ret)
    .skip))
  (.seq (.region [⟨(some 18), .mov (.tmp 0), none⟩,
    ⟨(some 19), .len (.tmp 18), none⟩,
    ⟨(some 7), .mov (.tmp 19), none⟩])
  (.seq (.draw [⟨(some 20), .mov (.tmp 0), none⟩,
    ⟨(some 21), .mov (.tmp 1), none⟩,
    ⟨(some 22), .slc 7 (.tmp 20) none (some (.tmp 21)) none, none⟩,
    ⟨(some 23), .mov (.tmp 0), none⟩,
    ⟨(some 24), .mov (.tmp 2), none⟩,
    ⟨(some 25), .slc 7 (.tmp 23) (some (.tmp 24)) none none, none⟩,
    ⟨(some 26), .app 7 96 (.tmp 22) (.tmp 25), none⟩,
    ⟨(some 0), .mov (.tmp 26), none⟩] [[], [], [1, 0], [], [], [4, 3], [3, 4, 0, 1, 5, 2], [5, 4, 3, 2, 1, 0, 6]])
  (.seq (.region [⟨(some 27), .mov (.tmp 0), none⟩,
    ⟨(some 28), .mov (.tmp 0), none⟩,
    ⟨(some 29), .len (.tmp 28), none⟩,
    ⟨(some 30), .mov (.tmp 7), none⟩,
    ⟨(some 31), .slc 7 (.tmp 27) (some (.tmp 29)) (some (.tmp 30)) none, none⟩,
    ⟨none, .hard (h 6 5), none⟩])
  (.seq (.region [⟨(some 32), .mov (.tmp 0), none⟩,
    ⟨(some 6), .mov (.tmp 32), none⟩])
  .ret)))))))
def c_slices_Delete (h : Nat → Nat → Op) : AFun := ⟨33, b_slices_Delete h, [(6, none)]⟩
/-- 108 pandect/code.proper -/
def r_code_proper_0 (q : Nat → Nat) : List AOper := [⟨(some 4), .faddr 3 (.tmp 1), none⟩,
    ⟨(some 5), .load false 1 (.tmp 4), none⟩,
    ⟨(some 6), .slen (.tmp 5), none⟩,
    ⟨(some 7), .bin .leq (.tmp 6) (.const (.int .i64 8)), none⟩,
    ⟨(some 8), .mov (.tmp 7), none⟩,
    ⟨(some 9), .faddr 3 (.tmp 1), (some (8, true))⟩,
    ⟨(some 10), .load false 1 (.tmp 9), (some (8, true))⟩,
    ⟨(some 11), .call 124 [(.tmp 10), (.func (q 125))], (some (8, true))⟩,
    ⟨(some 12), .un .not (.tmp 11), (some (8, true))⟩,
    ⟨(some 13), .pick (.tmp 8) (.tmp 12) (.const (.bool false)), none⟩,
    ⟨(some 3), .mov (.tmp 13), none⟩]
def r_code_proper_1 : List AOper := [⟨(some 18), .mov (.tmp 3), none⟩,
       ⟨(some 19), .mov (.tmp 18), none⟩,
       ⟨(some 20), .faddr 1 (.tmp 1), (some (19, true))⟩,
       ⟨(some 21), .load false 1 (.tmp 20), (some (19, true))⟩,
       ⟨(some 22), .call 126 [(.tmp 21)], (some (19, true))⟩,
       ⟨(some 23), .pick (.tmp 19) (.tmp 22) (.const (.bool false)), none⟩,
       ⟨(some 24), .mov (.tmp 23), none⟩,
       ⟨(some 25), .faddr 4 (.tmp 1), (some (24, true))⟩,
       ⟨(some 26), .load false 1 (.tmp 25), (some (24, true))⟩,
       ⟨(some 27), .bin .eql (.tmp 26) (.const (.string ⟨#[]⟩)), (some (24, true))⟩,
       ⟨(some 28), .pick (.tmp 24) (.tmp 27) (.const (.bool false)), none⟩,
       ⟨(some 29), .mov (.tmp 28), none⟩,
       ⟨(some 30), .faddr 5 (.tmp 1), (some (29, true))⟩,
       ⟨(some 31), .load false 1 (.tmp 30), (some (29, true))⟩,
       ⟨(some 32), .bin .eql (.tmp 31) (.const (.string ⟨#[]⟩)), (some (29, true))⟩,
       ⟨(some 33), .pick (.tmp 29) (.tmp 32) (.const (.bool false)), none⟩,
       ⟨(some 34), .mov (.tmp 33), none⟩,
       ⟨(some 35), .faddr 6 (.tmp 1), (some (34, true))⟩,
       ⟨(some 36), .load false 1 (.tmp 35), (some (34, true))⟩,
       ⟨(some 37), .un .not (.tmp 36), (some (34, true))⟩,
       ⟨(some 38), .pick (.tmp 34) (.tmp 37) (.const (.bool false)), none⟩,
       ⟨(some 2), .mov (.tmp 38), none⟩]
def r_code_proper_2 : List AOper := [⟨(some 41), .mov (.tmp 3), none⟩,
         ⟨(some 42), .mov (.tmp 41), none⟩,
         ⟨(some 43), .faddr 1 (.tmp 1), (some (42, true))⟩,
         ⟨(some 44), .load false 1 (.tmp 43), (some (42, true))⟩,
         ⟨(some 45), .call 126 [(.tmp 44)], (some (42, true))⟩,
         ⟨(some 46), .pick (.tmp 42) (.tmp 45) (.const (.bool false)), none⟩,
         ⟨(some 47), .mov (.tmp 46), none⟩,
         ⟨(some 48), .faddr 4 (.tmp 1), (some (47, true))⟩,
         ⟨(some 49), .load false 1 (.tmp 48), (some (47, true))⟩,
         ⟨(some 50), .slen (.tmp 49), (some (47, true))⟩,
         ⟨(some 51), .bin .leq (.tmp 50) (.const (.int .i64 400)), (some (47, true))⟩,
         ⟨(some 52), .pick (.tmp 47) (.tmp 51) (.const (.bool false)), none⟩,
         ⟨(some 53), .mov (.tmp 52), none⟩,
         ⟨(some 54), .faddr 5 (.tmp 1), (some (53, true))⟩,
         ⟨(some 55), .load false 1 (.tmp 54), (some (53, true))⟩,
         ⟨(some 56), .slen (.tmp 55), (some (53, true))⟩,
         ⟨(some 57), .bin .leq (.tmp 56) (.const (.int .i64 400)), (some (53, true))⟩,
         ⟨(some 58), .pick (.tmp 53) (.tmp 57) (.const (.bool false)), none⟩,
         ⟨(some 2), .mov (.tmp 58), none⟩]
def b_code_proper (q : Nat → Nat) : ACode := (.seq (.region [⟨(some 1), .box (.tmp 0), none⟩,
    ⟨(some 2), .mov (.const (.bool false)), none⟩])
  (.seq (.region (r_code_proper_0 q))
  (.seq (.seq (.region [⟨(some 14), .faddr 0 (.tmp 1), none⟩,
    ⟨(some 15), .load false 1 (.tmp 14), none⟩])
  (.block 0 (.seq (.region [⟨(some 17), .bin .eql (.tmp 15) (.const (.int .i64 1)), none⟩,
     ⟨(some 16), .mov (.tmp 17), none⟩])
   (.cond (.tmp 16)
     (.seq (.region r_code_proper_1)
     .ret)
     (.seq (.region [⟨(some 40), .bin .eql (.tmp 15) (.const (.int .i64 2)), none⟩,
       ⟨(some 39), .mov (.tmp 40), none⟩])
     (.cond (.tmp 39)
       (.seq (.region r_code_proper_2)
       .ret)
       .skip))))))
  (.seq (.region [⟨(some 2), .mov (.const (.bool false)), none⟩])
  .ret))))
def c_code_proper (q : Nat → Nat) : AFun := ⟨59, b_code_proper q, [(2, none)]⟩
/-- 109 slices.Index[[]string,string] -/
def l_slices_Index_0 : ACode := (.seq (.region [⟨(some 9), .bin .lss (.tmp 8) (.tmp 7), none⟩])
    (.seq (.cond (.tmp 9)
      .skip
      (.exit 0))
    (.seq (.block 1 (.seq (.region [⟨(some 10), .mov (.tmp 8), none⟩,
       ⟨(some 5), .mov (.tmp 10), none⟩])
     (.seq (.region [⟨(some 11), .mov (.tmp 1), none⟩,
       ⟨(some 12), .mov (.tmp 0), none⟩,
       ⟨(some 13), .mov (.tmp 5), none⟩,
       ⟨(some 14), .iaddr 1 (.tmp 12) (.tmp 13), none⟩,
       ⟨(some 15), .load false 1 (.tmp 14), none⟩,
       ⟨(some 16), .bin .eql (.tmp 11) (.tmp 15), none⟩])
     (.cond (.tmp 16)
       (.seq (.region [⟨(some 17), .mov (.tmp 5), none⟩,
         ⟨(some 4), .mov (.tmp 17), none⟩])
       .ret)
       .skip))))
    (.region [⟨(some 18), .bin .add (.tmp 8) (.const (.int .i64 1)), none⟩,
      ⟨(some 8), .mov (.tmp 18), none⟩]))))
def b_slices_Index : ACode := (.seq (.region [⟨(some 4), .mov (.const (.int .i64 0)), none⟩])
  (.seq (.seq (.region [⟨(some 6), .mov (.tmp 0), none⟩,
    ⟨(some 7), .len (.tmp 6), none⟩,
    ⟨(some 8), .mov (.const (.int .i64 0)), none⟩])
  (.block 0 (.loop l_slices_Index_0)))
  (.seq (.region [⟨(some 4), .mov (.const (.int .i64 (-1))), none⟩])
  .ret)))
def c_slices_Index : AFun := ⟨19, b_slices_Index, [(4, none)]⟩
/-- 117 pandect/pandectref05.Name -/
def r_pandectref05_Name_0 : List AOper := [⟨(some 15), .mov (.tmp 0), none⟩,
    ⟨(some 16), .slen (.tmp 15), none⟩,
    ⟨(some 17), .bin .gtr (.tmp 16) (.const (.int .i64 0)), none⟩,
    ⟨(some 18), .mov (.tmp 17), none⟩,
    ⟨(some 19), .mov (.tmp 0), (some (18, true))⟩,
    ⟨(some 20), .slen (.tmp 19), (some (18, true))⟩,
    ⟨(some 21), .bin .leq (.tmp 20) (.const (.int .i64 24)), (some (18, true))⟩,
    ⟨(some 22), .pick (.tmp 18) (.tmp 21) (.const (.bool false)), none⟩,
    ⟨(some 23), .mov (.tmp 22), none⟩,
    ⟨(some 24), .mov (.tmp 0), (some (23, true))⟩,
    ⟨(some 25), .sidx (.tmp 24) (.const (.int .i64 0)), (some (23, true))⟩,
    ⟨(some 26), .call 134 [(.tmp 25)], (some (23, true))⟩,
    ⟨(some 27), .pick (.tmp 23) (.tmp 26) (.const (.bool false)), none⟩,
    ⟨(some 2), .mov (.tmp 27), none⟩]
def l_pandectref05_Name_0 : ACode := (.seq (.seq (.region [⟨(some 4), .mov (.tmp 3), none⟩,
      ⟨(some 5), .mov (.tmp 0), none⟩,
      ⟨(some 6), .slen (.tmp 5), none⟩,
      ⟨(some 7), .bin .lss (.tmp 4) (.tmp 6), none⟩])
    (.cond (.tmp 7)
      .skip
      (.exit 0)))
    (.seq (.block 1 (.seq (.region [⟨(some 10), .mov (.tmp 0), none⟩,
       ⟨(some 11), .mov (.tmp 3), none⟩,
       ⟨(some 12), .sidx (.tmp 10) (.tmp 11), none⟩,
       ⟨(some 13), .call 133 [(.tmp 12)], none⟩,
       ⟨(some 14), .un .not (.tmp 13), none⟩])
     (.cond (.tmp 14)
       (.seq (.region [⟨(some 2), .mov (.const (.bool false)), none⟩])
       .ret)
       .skip)))
    (.region [⟨(some 8), .mov (.tmp 3), none⟩,
      ⟨(some 9), .bin .add (.tmp 8) (.const (.int .i64 1)), none⟩,
      ⟨(some 3), .mov (.tmp 9), none⟩])))
def b_pandectref05_Name : ACode := (.seq (.region [⟨(some 2), .mov (.const (.bool false)), none⟩])
  (.seq (.seq (.region [⟨(some 3), .mov (.const (.int .i64 0)), none⟩])
  (.block 0 (.loop l_pandectref05_Name_0)))
  (.seq (.region r_pandectref05_Name_0)
  .ret)))
def c_pandectref05_Name : AFun := ⟨28, b_pandectref05_Name, [(2, none)]⟩
/-- 118 pandect/pandectref18.number -/
def l_pandectref18_number_0 : ACode := (.seq (.seq (.region [⟨(some 4), .mov (.tmp 3), none⟩,
      ⟨(some 5), .mov (.tmp 0), none⟩,
      ⟨(some 6), .slen (.tmp 5), none⟩,
      ⟨(some 7), .bin .lss (.tmp 4) (.tmp 6), none⟩])
    (.cond (.tmp 7)
      .skip
      (.exit 0)))
    (.seq (.block 1 (.seq (.region [⟨(some 10), .mov (.tmp 0), none⟩,
       ⟨(some 11), .mov (.tmp 3), none⟩,
       ⟨(some 12), .sidx (.tmp 10) (.tmp 11), none⟩,
       ⟨(some 13), .bin .geq (.tmp 12) (.const (.int .u8 48)), none⟩,
       ⟨(some 14), .mov (.tmp 13), none⟩,
       ⟨(some 15), .mov (.tmp 0), (some (14, true))⟩,
       ⟨(some 16), .mov (.tmp 3), (some (14, true))⟩,
       ⟨(some 17), .sidx (.tmp 15) (.tmp 16), (some (14, true))⟩,
       ⟨(some 18), .bin .leq (.tmp 17) (.const (.int .u8 57)), (some (14, true))⟩,
       ⟨(some 19), .pick (.tmp 14) (.tmp 18) (.const (.bool false)), none⟩,
       ⟨(some 20), .mov (.tmp 19), none⟩,
       ⟨(some 21), .mov (.tmp 0), (some (20, false))⟩,
       ⟨(some 22), .mov (.tmp 3), (some (20, false))⟩,
       ⟨(some 23), .sidx (.tmp 21) (.tmp 22), (some (20, false))⟩,
       ⟨(some 24), .bin .geq (.tmp 23) (.const (.int .u8 97)), (some (20, false))⟩,
       ⟨(some 25), .mov (.tmp 24), (some (20, false))⟩,
       ⟨(some 26), .mov (.tmp 0), (some (25, true))⟩,
       ⟨(some 27), .mov (.tmp 3), (some (25, true))⟩,
       ⟨(some 28), .sidx (.tmp 26) (.tmp 27), (some (25, true))⟩,
       ⟨(some 29), .bin .leq (.tmp 28) (.const (.int .u8 122)), (some (25, true))⟩,
       ⟨(some 30), .pick (.tmp 25) (.tmp 29) (.const (.bool false)), (some (20, false))⟩,
       ⟨(some 31), .pick (.tmp 20) (.const (.bool true)) (.tmp 30), none⟩,
       ⟨(some 32), .un .not (.tmp 31), none⟩])
     (.cond (.tmp 32)
       (.seq (.region [⟨(some 2), .mov (.const (.bool false)), none⟩])
       .ret)
       .skip)))
    (.region [⟨(some 8), .mov (.tmp 3), none⟩,
      ⟨(some 9), .bin .add (.tmp 8) (.const (.int .i64 1)), none⟩,
      ⟨(some 3), .mov (.tmp 9), none⟩])))
def b_pandectref18_number : ACode := (.seq (.region [⟨(some 2), .mov (.const (.bool false)), none⟩])
  (.seq (.seq (.region [⟨(some 3), .mov (.const (.int .i64 0)), none⟩])
  (.block 0 (.loop l_pandectref18_number_0)))
  (.seq (.region [⟨(some 33), .mov (.tmp 0), none⟩,
    ⟨(some 34), .slen (.tmp 33), none⟩,
    ⟨(some 35), .bin .leq (.tmp 34) (.const (.int .i64 8)), none⟩,
    ⟨(some 2), .mov (.tmp 35), none⟩])
  .ret)))
def c_pandectref18_number : AFun := ⟨36, b_pandectref18_number, [(2, none)]⟩
/-- 122 slices.Insert[[]pandect/api.Item,pandect/api.Item] -/
def b_slices_Insert (h : Nat → Nat → Op) : ACode := (.seq (.region [⟨(some 6), .mov (.const (.slice none 0 0)), none⟩])
  (.seq (.region [⟨(some 10), .mov (.tmp 0), none⟩,
    ⟨(some 11), .mov (.tmp 1), none⟩,
    ⟨(some 12), .slc 7 (.tmp 10) (some (.tmp 11)) none none, none⟩])
  (.seq (.region [⟨(some 13), .mov (.tmp 2), none⟩,
    ⟨(some 14), .len (.tmp 13), none⟩,
    ⟨(some 7), .mov (.tmp 14), none⟩])
  (.seq (.seq (.region [⟨(some 15), .mov (.tmp 7), none⟩,
    ⟨(some 16), .bin .eql (.tmp 15) (.const (.int .i64 0)), none⟩])
  (.cond (.tmp 16)
    (.seq (.region [⟨(some 17), .mov (.tmp 0), none⟩,
      ⟨(some 6), .mov (.tmp 17), none⟩])
    .ret)
    .skip))
  (.seq (.region [⟨(some 18), .mov (.tmp 0), none⟩,
    ⟨(some 19), .len (.tmp 18), none⟩,
    ⟨(some 8), .mov (.tmp 19), none⟩])
  (.seq (.seq (.region [⟨(some 20), .mov (.tmp 1), none⟩,
    ⟨(some 21), .mov (.tmp 8), none⟩,
    ⟨(some 22), .bin .eql (.tmp 20) (.tmp 21), none⟩])
  (.cond (.tmp 22)
    (.seq (.region [⟨(some 23), .mov (.tmp 0), none⟩,
      ⟨(some 24), .mov (.tmp 2), none⟩,
      ⟨(some 25), .app 7 96 (.tmp 23) (.tmp 24), none⟩,
      ⟨(some 6), .mov (.tmp 25), none⟩])
    .ret)
    .skip))
  (.seq (.seq (.region [⟨(some 26), .mov (.tmp 8), none⟩,
    ⟨(some 27), .mov (.tmp 7), none⟩,
    ⟨(some 28), .bin .add (.tmp 26) (.tmp 27), none⟩,
    ⟨(some 29), .mov (.tmp 0), none⟩,
    ⟨(some 30), .capv (.tmp 29), none⟩,
    ⟨(some 31), .bin .gtr (.tmp 28) (.tmp 30), none⟩])
  (.cond (.tmp 31)
    (.seq (.region [⟨(some 32), .mov (.tmp 0), none⟩,
      ⟨(some 33), .mov (.tmp 1), none⟩,
      ⟨(some 34), .slc 7 (.tmp 32) none (some (.tmp 33)) none, none⟩,
      ⟨(some 35), .mov (.tmp 8), none⟩,
      ⟨(some 36), .mov (.tmp 7), none⟩,
      ⟨(some 37), .bin .add (.tmp 35) (.tmp 36), none⟩,
      ⟨(some 38), .mov (.tmp 1), none⟩,
      ⟨(some 39), .bin .sub (.tmp 37) (.tmp 38), none⟩,
      ⟨(some 40), .appz 7 96 [(.int .i64 0), (.string ⟨#[]⟩), (.string ⟨#[]⟩), (.string ⟨#[]⟩), (.string ⟨#[]⟩), (.string ⟨#[]⟩), (.bool false)] (.tmp 34) (.tmp 39), none⟩,
      ⟨(some 9), .mov (.tmp 40), none⟩])
    (.seq (.region [⟨(some 41), .mov (.tmp 9), none⟩,
      ⟨(some 42), .mov (.tmp 1), none⟩,
      ⟨(some 43), .slc 7 (.tmp 41) (some (.tmp 42)) none none, none⟩,
      ⟨(some 44), .mov (.tmp 2), none⟩,
      ⟨(some 45), .cpy 7 (.tmp 43) (.tmp 44), none⟩])
    (.seq (.draw [⟨(some 46), .mov (.tmp 9), none⟩,
      ⟨(some 47), .mov (.tmp 1), none⟩,
      ⟨(some 48), .mov (.tmp 7), none⟩,
      ⟨(some 49), .bin .add (.tmp 47) (.tmp 48), none⟩,
      ⟨(some 50), .slc 7 (.tmp 46) (some (.tmp 49)) none none, none⟩,
      ⟨(some 51), .mov (.tmp 0), none⟩,
      ⟨(some 52), .mov (.tmp 1), none⟩,
      ⟨(some 53), .slc 7 (.tmp 51) (some (.tmp 52)) none none, none⟩,
      ⟨(some 54), .cpy 7 (.tmp 50) (.tmp 53), none⟩] [[], [], [], [2, 1], [1, 2, 3, 0], [], [], [6, 5], [5, 6, 0, 3, 2, 1, 7, 4]])
    (.seq (.region [⟨(some 55), .mov (.tmp 9), none⟩,
      ⟨(some 6), .mov (.tmp 55), none⟩])
    .ret))))
    .skip))
  (.seq (.region [⟨(some 56), .mov (.tmp 0), none⟩,
    ⟨(some 57), .mov (.tmp 8), none⟩,
    ⟨(some 58), .mov (.tmp 7), none⟩,
    ⟨(some 59), .bin .add (.tmp 57) (.tmp 58), none⟩,
    ⟨(some 60), .slc 7 (.tmp 56) none (some (.tmp 59)) none, none⟩,
    ⟨(some 0), .mov (.tmp 60), none⟩])
  (.seq (.seq (.region [⟨(some 61), .mov (.tmp 2), none⟩,
    ⟨(some 62), .mov (.tmp 0), none⟩,
    ⟨(some 63), .mov (.tmp 1), none⟩,
    ⟨(some 64), .mov (.tmp 7), none⟩,
    ⟨(some 65), .bin .add (.tmp 63) (.tmp 64), none⟩,
    ⟨(some 66), .slc 7 (.tmp 62) (some (.tmp 65)) none none, none⟩,
    ⟨(some 67), .hard (h 14 6), none⟩,
    ⟨(some 68), .un .not (.tmp 67), none⟩])
  (.cond (.tmp 68)
    (.seq (.draw [⟨(some 69), .mov (.tmp 0), none⟩,
      ⟨(some 70), .mov (.tmp 1), none⟩,
      ⟨(some 71), .mov (.tmp 7), none⟩,
      ⟨(some 72), .bin .add (.tmp 70) (.tmp 71), none⟩,
      ⟨(some 73), .slc 7 (.tmp 69) (some (.tmp 72)) none none, none⟩,
      ⟨(some 74), .mov (.tmp 0), none⟩,
      ⟨(some 75), .mov (.tmp 1), none⟩,
      ⟨(some 76), .slc 7 (.tmp 74) (some (.tmp 75)) none none, none⟩,
      ⟨(some 77), .cpy 7 (.tmp 73) (.tmp 76), none⟩] [[], [], [], [2, 1], [1, 2, 3, 0], [], [], [6, 5], [5, 6, 0, 3, 2, 1, 7, 4]])
    (.seq (.region [⟨(some 78), .mov (.tmp 0), none⟩,
      ⟨(some 79), .mov (.tmp 1), none⟩,
      ⟨(some 80), .slc 7 (.tmp 78) (some (.tmp 79)) none none, none⟩,
      ⟨(some 81), .mov (.tmp 2), none⟩,
      ⟨(some 82), .cpy 7 (.tmp 80) (.tmp 81), none⟩])
    (.seq (.region [⟨(some 83), .mov (.tmp 0), none⟩,
      ⟨(some 6), .mov (.tmp 83), none⟩])
    .ret)))
    .skip))
  (.seq (.region [⟨(some 84), .mov (.tmp 0), none⟩,
    ⟨(some 85), .mov (.tmp 8), none⟩,
    ⟨(some 86), .slc 7 (.tmp 84) (some (.tmp 85)) none none, none⟩,
    ⟨(some 87), .mov (.tmp 2), none⟩,
    ⟨(some 88), .cpy 7 (.tmp 86) (.tmp 87), none⟩])
  (.seq (.region [⟨(some 89), .mov (.tmp 0), none⟩,
    ⟨(some 90), .mov (.tmp 1), none⟩,
    ⟨(some 91), .slc 7 (.tmp 89) (some (.tmp 90)) none none, none⟩,
    ⟨(some 92), .mov (.tmp 7), none⟩,
    ⟨(some 93), .call 147 [(.tmp 91), (.tmp 92)], none⟩])
  (.seq (.region [⟨(some 94), .mov (.tmp 0), none⟩,
    ⟨(some 6), .mov (.tmp 94), none⟩])
  .ret))))))))))))
def c_slices_Insert (h : Nat → Nat → Op) : AFun := ⟨95, b_slices_Insert h, [(6, none)]⟩
/-- 123 pandect/code.Underd1 -/
def r_code_Under_d1_0 : List AOper := [⟨(some 16), .load false 1 (.tmp 4), none⟩,
      ⟨(some 17), .bin .eql (.tmp 16) (.const (.string ⟨#[]⟩)), none⟩,
      ⟨(some 18), .mov (.tmp 17), none⟩,
      ⟨(some 19), .mov (.tmp 1), (some (18, false))⟩,
      ⟨(some 20), .load false 1 (.tmp 4), (some (18, false))⟩,
      ⟨(some 21), .call 79 [(.tmp 19), (.tmp 20)], (some (18, false))⟩,
      ⟨(some 22), .pick (.tmp 18) (.const (.bool true)) (.tmp 21), none⟩,
      ⟨none, .store 1 (.tmp 5) (.tmp 22), none⟩]
def b_code_Under_d1 : ACode := (.seq (.draw [⟨(some 8), .faddr 0 (.tmp 2), none⟩,
    ⟨(some 9), .load false 1 (.tmp 8), none⟩,
    ⟨(some 10), .mov (.tmp 0), none⟩,
    ⟨(some 11), .iaddr 7 (.tmp 9) (.tmp 10), none⟩,
    ⟨(some 12), .faddr 1 (.tmp 11), none⟩,
    ⟨(some 13), .load false 1 (.tmp 12), none⟩,
    ⟨(some 14), .load false 1 (.tmp 3), none⟩,
    ⟨(some 15), .bin .eql (.tmp 13) (.tmp 14), none⟩] [[], [0], [], [0, 2, 1], [1, 2, 0, 3], [3, 0, 2, 1, 4], [], [4, 1, 2, 0, 3, 6, 5]])
  (.cond (.tmp 15)
    (.region r_code_Under_d1_0)
    .skip))
def c_code_Under_d1 : AFun := ⟨23, b_code_Under_d1, []⟩
/-- 126 pandect/code.isName -/
def r_code_isName_0 : List AOper := [⟨(some 15), .mov (.tmp 4), none⟩,
       ⟨(some 16), .bin .geq (.tmp 15) (.const (.int .u8 97)), none⟩,
       ⟨(some 17), .mov (.tmp 16), none⟩,
       ⟨(some 18), .mov (.tmp 4), (some (17, true))⟩,
       ⟨(some 19), .bin .leq (.tmp 18) (.const (.int .u8 122)), (some (17, true))⟩,
       ⟨(some 20), .pick (.tmp 17) (.tmp 19) (.const (.bool false)), none⟩,
       ⟨(some 21), .mov (.tmp 20), none⟩,
       ⟨(some 22), .mov (.tmp 4), (some (21, false))⟩,
       ⟨(some 23), .bin .geq (.tmp 22) (.const (.int .u8 65)), (some (21, false))⟩,
       ⟨(some 24), .mov (.tmp 23), (some (21, false))⟩,
       ⟨(some 25), .mov (.tmp 4), (some (24, true))⟩,
       ⟨(some 26), .bin .leq (.tmp 25) (.const (.int .u8 90)), (some (24, true))⟩,
       ⟨(some 27), .pick (.tmp 24) (.tmp 26) (.const (.bool false)), (some (21, false))⟩,
       ⟨(some 28), .pick (.tmp 21) (.const (.bool true)) (.tmp 27), none⟩,
       ⟨(some 29), .mov (.tmp 4), none⟩,
       ⟨(some 30), .bin .geq (.tmp 29) (.const (.int .u8 48)), none⟩,
       ⟨(some 31), .mov (.tmp 30), none⟩,
       ⟨(some 32), .mov (.tmp 4), (some (31, true))⟩,
       ⟨(some 33), .bin .leq (.tmp 32) (.const (.int .u8 57)), (some (31, true))⟩,
       ⟨(some 34), .pick (.tmp 31) (.tmp 33) (.const (.bool false)), none⟩,
       ⟨(some 35), .mov (.tmp 34), none⟩,
       ⟨(some 36), .mov (.tmp 4), (some (35, false))⟩,
       ⟨(some 37), .bin .eql (.tmp 36) (.const (.int .u8 95)), (some (35, false))⟩,
       ⟨(some 38), .pick (.tmp 35) (.const (.bool true)) (.tmp 37), none⟩,
       ⟨(some 5), .mov (.tmp 28), none⟩,
       ⟨(some 6), .mov (.tmp 38), none⟩]
def l_code_isName_0 : ACode := (.seq (.region [⟨(some 10), .bin .lss (.tmp 9) (.tmp 8), none⟩])
    (.seq (.cond (.tmp 10)
      .skip
      (.exit 0))
    (.seq (.block 1 (.seq (.region [⟨(some 11), .mov (.tmp 9), none⟩,
       ⟨(some 3), .mov (.tmp 11), none⟩])
     (.seq (.region [⟨(some 12), .mov (.tmp 0), none⟩,
       ⟨(some 13), .mov (.tmp 3), none⟩,
       ⟨(some 14), .sidx (.tmp 12) (.tmp 13), none⟩,
       ⟨(some 4), .mov (.tmp 14), none⟩])
     (.seq (.region r_code_isName_0)
     (.seq (.region [⟨(some 39), .mov (.tmp 5), none⟩,
       ⟨(some 40), .un .not (.tmp 39), none⟩,
       ⟨(some 41), .mov (.tmp 40), none⟩,
       ⟨(some 42), .mov (.tmp 3), (some (41, true))⟩,
       ⟨(some 43), .bin .eql (.tmp 42) (.const (.int .i64 0)), (some (41, true))⟩,
       ⟨(some 44), .mov (.tmp 43), (some (41, true))⟩,
       ⟨(some 45), .mov (.tmp 6), (some (44, false))⟩,
       ⟨(some 46), .un .not (.tmp 45), (some (44, false))⟩,
       ⟨(some 47), .pick (.tmp 44) (.const (.bool true)) (.tmp 46), (some (41, true))⟩,
       ⟨(some 48), .pick (.tmp 41) (.tmp 47) (.const (.bool false)), none⟩])
     (.cond (.tmp 48)
       (.seq (.region [⟨(some 2), .mov (.const (.bool false)), none⟩])
       .ret)
       .skip))))))
    (.region [⟨(some 49), .bin .add (.tmp 9) (.const (.int .i64 1)), none⟩,
      ⟨(some 9), .mov (.tmp 49), none⟩]))))
def b_code_isName : ACode := (.seq (.region [⟨(some 2), .mov (.const (.bool false)), none⟩])
  (.seq (.seq (.region [⟨(some 7), .mov (.tmp 0), none⟩,
    ⟨(some 8), .slen (.tmp 7), none⟩,
    ⟨(some 9), .mov (.const (.int .i64 0)), none⟩])
  (.block 0 (.loop l_code_isName_0)))
  (.seq (.region [⟨(some 50), .mov (.tmp 0), none⟩,
    ⟨(some 51), .bin .neq (.tmp 50) (.const (.string ⟨#[]⟩)), none⟩,
    ⟨(some 52), .mov (.tmp 51), none⟩,
    ⟨(some 53), .mov (.tmp 0), (some (52, true))⟩,
    ⟨(some 54), .slen (.tmp 53), (some (52, true))⟩,
    ⟨(some 55), .bin .leq (.tmp 54) (.const (.int .i64 24)), (some (52, true))⟩,
    ⟨(some 56), .pick (.tmp 52) (.tmp 55) (.const (.bool false)), none⟩,
    ⟨(some 2), .mov (.tmp 56), none⟩])
  .ret)))
def c_code_isName : AFun := ⟨57, b_code_isName, [(2, none)]⟩
/-- 131 pandect/pandectref18.In -/
def l_pandectref18_In_0 : ACode := (.seq (.seq (.region [⟨(some 6), .mov (.tmp 5), none⟩,
      ⟨(some 7), .mov (.tmp 0), none⟩,
      ⟨(some 8), .len (.tmp 7), none⟩,
      ⟨(some 9), .bin .lss (.tmp 6) (.tmp 8), none⟩])
    (.cond (.tmp 9)
      .skip
      (.exit 0)))
    (.seq (.block 1 (.seq (.region [⟨(some 12), .mov (.tmp 0), none⟩,
       ⟨(some 13), .mov (.tmp 5), none⟩,
       ⟨(some 14), .iaddr 1 (.tmp 12) (.tmp 13), none⟩,
       ⟨(some 15), .load false 1 (.tmp 14), none⟩,
       ⟨(some 16), .mov (.tmp 1), none⟩,
       ⟨(some 17), .bin .eql (.tmp 15) (.tmp 16), none⟩])
     (.cond (.tmp 17)
       (.seq (.region [⟨(some 4), .mov (.const (.bool true)), none⟩])
       .ret)
       .skip)))
    (.region [⟨(some 10), .mov (.tmp 5), none⟩,
      ⟨(some 11), .bin .add (.tmp 10) (.const (.int .i64 1)), none⟩,
      ⟨(some 5), .mov (.tmp 11), none⟩])))
def b_pandectref18_In : ACode := (.seq (.region [⟨(some 4), .mov (.const (.bool false)), none⟩])
  (.seq (.seq (.region [⟨(some 5), .mov (.const (.int .i64 0)), none⟩])
  (.block 0 (.loop l_pandectref18_In_0)))
  (.seq (.region [⟨(some 4), .mov (.const (.bool false)), none⟩])
  .ret)))
def c_pandectref18_In : AFun := ⟨18, b_pandectref18_In, [(4, none)]⟩
/-- 133 pandect/pandectref05.word -/
def r_pandectref05_word_0 : List AOper := [⟨(some 3), .mov (.tmp 0), none⟩,
    ⟨(some 4), .call 134 [(.tmp 3)], none⟩,
    ⟨(some 5), .mov (.tmp 4), none⟩,
    ⟨(some 6), .mov (.tmp 0), (some (5, false))⟩,
    ⟨(some 7), .call 154 [(.tmp 6)], (some (5, false))⟩,
    ⟨(some 8), .pick (.tmp 5) (.const (.bool true)) (.tmp 7), none⟩,
    ⟨(some 9), .mov (.tmp 8), none⟩,
    ⟨(some 10), .mov (.tmp 0), (some (9, false))⟩,
    ⟨(some 11), .bin .eql (.tmp 10) (.const (.int .u8 95)), (some (9, false))⟩,
    ⟨(some 12), .pick (.tmp 9) (.const (.bool true)) (.tmp 11), none⟩,
    ⟨(some 2), .mov (.tmp 12), none⟩]
def b_pandectref05_word : ACode := (.seq (.region [⟨(some 2), .mov (.const (.bool false)), none⟩])
  (.seq (.region r_pandectref05_word_0)
  .ret))
def c_pandectref05_word : AFun := ⟨13, b_pandectref05_word, [(2, none)]⟩
/-- 134 pandect/pandectref05.letter -/
def b_pandectref05_letter : ACode := (.seq (.region [⟨(some 2), .mov (.const (.bool false)), none⟩])
  (.seq (.region [⟨(some 3), .mov (.tmp 0), none⟩,
    ⟨(some 4), .bin .geq (.tmp 3) (.const (.int .u8 97)), none⟩,
    ⟨(some 5), .mov (.tmp 4), none⟩,
    ⟨(some 6), .mov (.tmp 0), (some (5, true))⟩,
    ⟨(some 7), .bin .leq (.tmp 6) (.const (.int .u8 122)), (some (5, true))⟩,
    ⟨(some 8), .pick (.tmp 5) (.tmp 7) (.const (.bool false)), none⟩,
    ⟨(some 9), .mov (.tmp 8), none⟩,
    ⟨(some 10), .mov (.tmp 0), (some (9, false))⟩,
    ⟨(some 11), .bin .geq (.tmp 10) (.const (.int .u8 65)), (some (9, false))⟩,
    ⟨(some 12), .mov (.tmp 11), (some (9, false))⟩,
    ⟨(some 13), .mov (.tmp 0), (some (12, true))⟩,
    ⟨(some 14), .bin .leq (.tmp 13) (.const (.int .u8 90)), (some (12, true))⟩,
    ⟨(some 15), .pick (.tmp 12) (.tmp 14) (.const (.bool false)), (some (9, false))⟩,
    ⟨(some 16), .pick (.tmp 9) (.const (.bool true)) (.tmp 15), none⟩,
    ⟨(some 2), .mov (.tmp 16), none⟩])
  .ret))
def c_pandectref05_letter : AFun := ⟨17, b_pandectref05_letter, [(2, none)]⟩
/-- 154 pandect/pandectref05.digit -/
def b_pandectref05_digit : ACode := (.seq (.region [⟨(some 2), .mov (.const (.bool false)), none⟩])
  (.seq (.region [⟨(some 3), .mov (.tmp 0), none⟩,
    ⟨(some 4), .bin .geq (.tmp 3) (.const (.int .u8 48)), none⟩,
    ⟨(some 5), .mov (.tmp 4), none⟩,
    ⟨(some 6), .mov (.tmp 0), (some (5, true))⟩,
    ⟨(some 7), .bin .leq (.tmp 6) (.const (.int .u8 57)), (some (5, true))⟩,
    ⟨(some 8), .pick (.tmp 5) (.tmp 7) (.const (.bool false)), none⟩,
    ⟨(some 2), .mov (.tmp 8), none⟩])
  .ret))
def c_pandectref05_digit : AFun := ⟨9, b_pandectref05_digit, [(2, none)]⟩
/-- The program has these functions. -/
structure Lay (P : Program) (T : List Nat) : Prop where
  len : 166 ≤ T.length
  t_pandectlaw19_PatchLists : Tied P T 35 (c_pandectlaw19_PatchLists)
  t_pandectlaw19_head : Tied P T 43 (c_pandectlaw19_head)
  t_pandectref19_Light : Tied P T 44 (c_pandectref19_Light)
  t_pandectref19_Few : Tied P T 45 (c_pandectref19_Few)
  t_patch_Apply : Tied P T 46 (c_patch_Apply (T.getD · 0))
  t_code_Valid : Tied P T 47 (c_code_Valid (T.getD · 0))
  t_code_Find : Tied P T 48 (c_code_Find (T.getD · 0))
  t_code_Below : Tied P T 49 (c_code_Below (T.getD · 0))
  t_pandectref07_Names : Tied P T 50 (c_pandectref07_Names)
  t_pandectlaw19_ids : Tied P T 51 (c_pandectlaw19_ids)
  t_pandectref07_In : Tied P T 52 (c_pandectref07_In)
  t_pandectref18_Same : Tied P T 53 (c_pandectref18_Same)
  t_patch_All : Tied P T 54 (c_patch_All)
  t_pandectlaw19_example : Tied P T 65 (c_pandectlaw19_example)
  t_patch_formed : Tied P T 66 (c_patch_formed (T.getD · 0))
  t_patch_change_insert : Tied P T 67 (c_patch_change_insert)
  t_patch_change_words : Tied P T 68 (c_patch_change_words)
  t_patch_change_number : Tied P T 69 (c_patch_change_number)
  t_patch_change_move : Tied P T 70 (c_patch_change_move)
  t_patch_change_gone : Tied P T 71 (c_patch_change_gone)
  t_patch_change_replace : Tied P T 72 (c_patch_change_replace)
  t_patch_change_item : Tied P T 73 (c_patch_change_item)
  t_code_walk : Tied P T 74 (c_code_walk)
  t_code_Valid_d1 : Tied P T 75 (c_code_Valid_d1)
  t_slices_IndexFunc : Tied P T 76 (c_slices_IndexFunc)
  t_code_Find_d1 : Tied P T 77 (c_code_Find_d1)
  t_code_Below_d1 : Tied P T 78 (c_code_Below_d1)
  t_slices_Contains : Tied P T 79 (c_slices_Contains)
  t_slices_Clone : Tied P T 80 (c_slices_Clone)
  t_patch_once : Tied P T 81 (c_patch_once)
  t_pandectref18_Find : Tied P T 85 (c_pandectref18_Find)
  t_patch_formed_d1 : Tied P T 101 (c_patch_formed_d1)
  t_patch_change_exists : Tied P T 102 (c_patch_change_exists)
  t_patch_change_put : Tied P T 103 (c_patch_change_put)
  t_patch_change_with : Tied P T 104 (c_patch_change_with)
  t_code_Under : Tied P T 105 (c_code_Under (T.getD · 0))
  t_patch_change_size : Tied P T 106 (c_patch_change_size)
  t_slices_Delete : Tied P T 107 (c_slices_Delete (opsOf P T 107))
  t_code_proper : Tied P T 108 (c_code_proper (T.getD · 0))
  t_slices_Index : Tied P T 109 (c_slices_Index)
  t_pandectref05_Name : Tied P T 117 (c_pandectref05_Name)
  t_pandectref18_number : Tied P T 118 (c_pandectref18_number)
  t_slices_Insert : Tied P T 122 (c_slices_Insert (opsOf P T 122))
  t_code_Under_d1 : Tied P T 123 (c_code_Under_d1)
  t_code_isName : Tied P T 126 (c_code_isName)
  t_pandectref18_In : Tied P T 131 (c_pandectref18_In)
  t_pandectref05_word : Tied P T 133 (c_pandectref05_word)
  t_pandectref05_letter : Tied P T 134 (c_pandectref05_letter)
  t_pandectref05_digit : Tied P T 154 (c_pandectref05_digit)
end Go.Av

namespace Go.Av
variable {P : Program} {T : List Nat}
def Letter (c : Int) : Prop := (97 ≤ c ∧ c ≤ 122) ∨ (65 ≤ c ∧ c ≤ 90)
instance (c : Int) : Decidable (Letter c) := inferInstanceAs (Decidable (_ ∨ _))
theorem letter_con (L : Lay P T) (c : Int) : Con P T 134 [.imm (.int .u8 c)] (.imm (.bool (decide (Letter c)))) := by
  refine Con_of nul L.t_pandectref05_letter [] [] (by exact Nat.le_of_ble_eq_true rfl) ?_
  show wCode _ b_pandectref05_letter _ _ _ _
  simp -implicitDefEqProofs only [b_pandectref05_letter,za0,za1,za2,za3,za4,eff,AV.ptrOf,AV.tokOf,za5,za6,AV.weaks,AV.weak1,za7,za8,za9,zb0,zb1,zb2,zb3,zb4,zb5,zb6,zb7,zb8,zb9,zc0,zc1,zc2,zc3,zc4,zc5,zc6,zc7,zc8,zc9,zd0,zd1,zd2,zd3,zd4,zd5,zd6,zd7,zd8,zd9,ze0,ze1,ze2,ze3,ze4,ze5,ze6,ze7,ze8,ze9,zf0,zf1,zf2,zf3,zf4,zf5,zf6,zf7,zf8,zf9,zg0,zg1,zg2,zg3,zg4,zg5,zg6,zg7,zg8,zg9,zh0,zh1,zh2,zh3,zh4,zh5,zh6,zh7,zh8,zh9,zi0,zi1,zi2,zi3,zi4,zi5,zi6,wSnil,zi7,zi8,zi9,zj0,zj1,zj2,zj3,zj4,zj5,zj6,zj7,zj8,AV.flatB,AV.flatBs,zj9,zk0,zk1,zk2,zk3,zk4,zk5,zk6,act,AV.cells,AV.mk,AV.asSl,AV.asInt,AV.vslOf,wIdx,zk7,zk8,zk9,zl0,zl1,zl2,zl3,st0,env0,zl4,zl5,zl6,Nat.reduceAdd,Nat.reduceEqDiff,Nat.reduceLeDiff,↓reduceIte,AV.ofV,unV,← decide_not,zl7,zl8,zl9,zm0,zm1,zm2,zm3,zm4,zm5,zm6,zm7,zm8,zm9,zn0,zn1,zn2,zn3,zn4,zn5,zn6,zn7,reduceCtorEq,rowsOf,pureCells,AV.weak,AV.pureB,AV.pureBs,zn8,zn9,zo0,zo1,zo2,Nat.reduceBEq,zo3,zo4,zo5,zo6,zo7,zo8,zo9,zp0,zp1]
  simp -implicitDefEqProofs only [c_pandectref05_letter,zp2,zp3,zp4,zp5,zp6,zp7,zp8,zp9,zq0,zq1,zl4,Nat.reduceEqDiff,↓reduceIte,zm0]
  simp only [Letter]
  grind
def Digit (c : Int) : Prop := 48 ≤ c ∧ c ≤ 57
instance (c : Int) : Decidable (Digit c) := inferInstanceAs (Decidable (_ ∧ _))
theorem digit_con (L : Lay P T) (c : Int) : Con P T 154 [.imm (.int .u8 c)] (.imm (.bool (decide (Digit c)))) := by
  refine Con_of nul L.t_pandectref05_digit [] [] (by exact Nat.le_of_ble_eq_true rfl) ?_
  show wCode _ b_pandectref05_digit _ _ _ _
  simp -implicitDefEqProofs only [b_pandectref05_digit,za0,za1,za2,za3,za4,eff,AV.ptrOf,AV.tokOf,za5,za6,AV.weaks,AV.weak1,za7,za8,za9,zb0,zb1,zb2,zb3,zb4,zb5,zb6,zb7,zb8,zb9,zc0,zc1,zc2,zc3,zc4,zc5,zc6,zc7,zc8,zc9,zd0,zd1,zd2,zd3,zd4,zd5,zd6,zd7,zd8,zd9,ze0,ze1,ze2,ze3,ze4,ze5,ze6,ze7,ze8,ze9,zf0,zf1,zf2,zf3,zf4,zf5,zf6,zf7,zf8,zf9,zg0,zg1,zg2,zg3,zg4,zg5,zg6,zg7,zg8,zg9,zh0,zh1,zh2,zh3,zh4,zh5,zh6,zh7,zh8,zh9,zi0,zi1,zi2,zi3,zi4,zi5,zi6,wSnil,zi7,zi8,zi9,zj0,zj1,zj2,zj3,zj4,zj5,zj6,zj7,zj8,AV.flatB,AV.flatBs,zj9,zk0,zk1,zk2,zk3,zk4,zk5,zk6,act,AV.cells,AV.mk,AV.asSl,AV.asInt,AV.vslOf,wIdx,zk7,zk8,zk9,zl0,zl1,zl2,zl3,st0,env0,zl4,zl5,zl6,Nat.reduceAdd,Nat.reduceEqDiff,Nat.reduceLeDiff,↓reduceIte,AV.ofV,unV,← decide_not,zl7,zl8,zl9,zm0,zm1,zm2,zm3,zm4,zm5,zm6,zm7,zm8,zm9,zn0,zn1,zn2,zn3,zn4,zn5,zn6,zn7,reduceCtorEq,rowsOf,pureCells,AV.weak,AV.pureB,AV.pureBs,zn8,zn9,zo0,zo1,zo2,Nat.reduceBEq,zo3,zo4,zo5,zo6,zo7,zo8,zo9,zp0,zp1]
  simp -implicitDefEqProofs only [c_pandectref05_digit,zp2,zp3,zp4,zp5,zp6,zp7,zp8,zp9,zq0,zq1,zl4,Nat.reduceEqDiff,↓reduceIte,zm0]
  simp only [Digit]
  grind
def Word (c : Int) : Prop := Letter c ∨ Digit c ∨ c = 95
instance (c : Int) : Decidable (Word c) := inferInstanceAs (Decidable (_ ∨ _))
theorem word_con (L : Lay P T) (c : Int) : Con P T 133 [.imm (.int .u8 c)] (.imm (.bool (decide (Word c)))) := by
  refine Con_of nul L.t_pandectref05_word [] [] (by exact Nat.le_of_ble_eq_true rfl) ?_
  show wCode _ b_pandectref05_word _ _ _ _
  simp -implicitDefEqProofs only [b_pandectref05_word,r_pandectref05_word_0,za0,za1,za2,za3,za4,eff,AV.ptrOf,AV.tokOf,za5,za6,AV.weaks,AV.weak1,za7,za8,za9,zb0,zb1,zb2,zb3,zb4,zb5,zb6,zb7,zb8,zb9,zc0,zc1,zc2,zc3,zc4,zc5,zc6,zc7,zc8,zc9,zd0,zd1,zd2,zd3,zd4,zd5,zd6,zd7,zd8,zd9,ze0,ze1,ze2,ze3,ze4,ze5,ze6,ze7,ze8,ze9,zf0,zf1,zf2,zf3,zf4,zf5,zf6,zf7,zf8,zf9,zg0,zg1,zg2,zg3,zg4,zg5,zg6,zg7,zg8,zg9,zh0,zh1,zh2,zh3,zh4,zh5,zh6,zh7,zh8,zh9,zi0,zi1,zi2,zi3,zi4,zi5,zi6,wSnil,zi7,zi8,zi9,zj0,zj1,zj2,zj3,zj4,zj5,zj6,zj7,zj8,AV.flatB,AV.flatBs,zj9,zk0,zk1,zk2,zk3,zk4,zk5,zk6,act,AV.cells,AV.mk,AV.asSl,AV.asInt,AV.vslOf,wIdx,zk7,zk8,zk9,zl0,zl1,zl2,zl3,st0,env0,zl4,zl5,zl6,Nat.reduceAdd,Nat.reduceEqDiff,Nat.reduceLeDiff,↓reduceIte,AV.ofV,unV,← decide_not,zl7,zl8,zl9,zm0,zm1,zm2,zm3,zm4,zm5,zm6,zm7,zm8,zm9,zn0,zn1,zn2,zn3,zn4,zn5,zn6,zn7,reduceCtorEq,rowsOf,pureCells,AV.weak,AV.pureB,AV.pureBs,zn8,zn9,zo0,zo1,zo2,Nat.reduceBEq,zo3,zo4,zo5,zo6,zo7,zo8,zo9,zp0,zp1]
  refine wCall_imm (letter_con L c) rfl (AV.les2_refl _) ?_
  simp -implicitDefEqProofs only [za0,za1,za2,za3,za4,eff,AV.ptrOf,AV.tokOf,za5,za6,AV.weaks,AV.weak1,za7,za8,za9,zb0,zb1,zb2,zb3,zb4,zb5,zb6,zb7,zb8,zb9,zc0,zc1,zc2,zc3,zc4,zc5,zc6,zc7,zc8,zc9,zd0,zd1,zd2,zd3,zd4,zd5,zd6,zd7,zd8,zd9,ze0,ze1,ze2,ze3,ze4,ze5,ze6,ze7,ze8,ze9,zf0,zf1,zf2,zf3,zf4,zf5,zf6,zf7,zf8,zf9,zg0,zg1,zg2,zg3,zg4,zg5,zg6,zg7,zg8,zg9,zh0,zh1,zh2,zh3,zh4,zh5,zh6,zh7,zh8,zh9,zi0,zi1,zi2,zi3,zi4,zi5,zi6,wSnil,zi7,zi8,zi9,zj0,zj1,zj2,zj3,zj4,zj5,zj6,zj7,zj8,AV.flatB,AV.flatBs,zj9,zk0,zk1,zk2,zk3,zk4,zk5,zk6,act,AV.cells,AV.mk,AV.asSl,AV.asInt,AV.vslOf,wIdx,zk7,zk8,zk9,zl0,zl1,zl2,zl3,st0,env0,zl4,zl5,zl6,Nat.reduceAdd,Nat.reduceEqDiff,Nat.reduceLeDiff,↓reduceIte,AV.ofV,unV,← decide_not,zl7,zl8,zl9,zm0,zm1,zm2,zm3,zm4,zm5,zm6,zm7,zm8,zm9,zn0,zn1,zn2,zn3,zn4,zn5,zn6,zn7,reduceCtorEq,rowsOf,pureCells,AV.weak,AV.pureB,AV.pureBs,zn8,zn9,zo0,zo1,zo2,Nat.reduceBEq,zo3,zo4,zo5,zo6,zo7,zo8,zo9,zp0,zp1]
  refine ⟨fun h1 => ?_, fun h1 => ?_⟩
  · refine wCall_imm (digit_con L c) rfl (AV.les2_refl _) ?_
    simp -implicitDefEqProofs only [za0,za1,za2,za3,za4,eff,AV.ptrOf,AV.tokOf,za5,za6,AV.weaks,AV.weak1,za7,za8,za9,zb0,zb1,zb2,zb3,zb4,zb5,zb6,zb7,zb8,zb9,zc0,zc1,zc2,zc3,zc4,zc5,zc6,zc7,zc8,zc9,zd0,zd1,zd2,zd3,zd4,zd5,zd6,zd7,zd8,zd9,ze0,ze1,ze2,ze3,ze4,ze5,ze6,ze7,ze8,ze9,zf0,zf1,zf2,zf3,zf4,zf5,zf6,zf7,zf8,zf9,zg0,zg1,zg2,zg3,zg4,zg5,zg6,zg7,zg8,zg9,zh0,zh1,zh2,zh3,zh4,zh5,zh6,zh7,zh8,zh9,zi0,zi1,zi2,zi3,zi4,zi5,zi6,wSnil,zi7,zi8,zi9,zj0,zj1,zj2,zj3,zj4,zj5,zj6,zj7,zj8,AV.flatB,AV.flatBs,zj9,zk0,zk1,zk2,zk3,zk4,zk5,zk6,act,AV.cells,AV.mk,AV.asSl,AV.asInt,AV.vslOf,wIdx,zk7,zk8,zk9,zl0,zl1,zl2,zl3,st0,env0,zl4,zl5,zl6,Nat.reduceAdd,Nat.reduceEqDiff,Nat.reduceLeDiff,↓reduceIte,AV.ofV,unV,← decide_not,zl7,zl8,zl9,zm0,zm1,zm2,zm3,zm4,zm5,zm6,zm7,zm8,zm9,zn0,zn1,zn2,zn3,zn4,zn5,zn6,zn7,reduceCtorEq,rowsOf,pureCells,AV.weak,AV.pureB,AV.pureBs,zn8,zn9,zo0,zo1,zo2,Nat.reduceBEq,zo3,zo4,zo5,zo6,zo7,zo8,zo9,zp0,zp1]
    simp -implicitDefEqProofs only [c_pandectref05_word,zp2,zp3,zp4,zp5,zp6,zp7,zp8,zp9,zq0,zq1,zl4,Nat.reduceEqDiff,↓reduceIte,zm0]
    simp only [Word]
    grind
  · simp -implicitDefEqProofs only [c_pandectref05_word,zp2,zp3,zp4,zp5,zp6,zp7,zp8,zp9,zq0,zq1,zl4,Nat.reduceEqDiff,↓reduceIte,zm0]
    simp only [Word]
    grind
def byteAt (s : ByteArray) (i : Nat) : Int := ((s.data.toList.getD i 0).toNat : Int)
def NameP (s : ByteArray) : Prop := (∀ i, i < s.size → Word (byteAt s i)) ∧ 0 < s.size ∧ s.size ≤ 24 ∧ Letter (byteAt s 0)
instance (s : ByteArray) : Decidable (NameP s) := inferInstanceAs (Decidable (_ ∧ _ ∧ _ ∧ _))
theorem name_con (L : Lay P T) (s : ByteArray) (hs : s.size ≤ 1048576) : Con P T 117 [.imm (.string s)] (.imm (.bool (decide (NameP s)))) := by
  refine Con_of nul L.t_pandectref05_Name [] [] (by exact Nat.le_of_ble_eq_true rfl) ?_
  show wCode _ b_pandectref05_Name _ _ _ _
  simp -implicitDefEqProofs only [b_pandectref05_Name,za0,za1,za2,za3,za4,eff,AV.ptrOf,AV.tokOf,za5,za6,AV.weaks,AV.weak1,za7,za8,za9,zb0,zb1,zb2,zb3,zb4,zb5,zb6,zb7,zb8,zb9,zc0,zc1,zc2,zc3,zc4,zc5,zc6,zc7,zc8,zc9,zd0,zd1,zd2,zd3,zd4,zd5,zd6,zd7,zd8,zd9,ze0,ze1,ze2,ze3,ze4,ze5,ze6,ze7,ze8,ze9,zf0,zf1,zf2,zf3,zf4,zf5,zf6,zf7,zf8,zf9,zg0,zg1,zg2,zg3,zg4,zg5,zg6,zg7,zg8,zg9,zh0,zh1,zh2,zh3,zh4,zh5,zh6,zh7,zh8,zh9,zi0,zi1,zi2,zi3,zi4,zi5,zi6,wSnil,zi7,zi8,zi9,zj0,zj1,zj2,zj3,zj4,zj5,zj6,zj7,zj8,AV.flatB,AV.flatBs,zj9,zk0,zk1,zk2,zk3,zk4,zk5,zk6,act,AV.cells,AV.mk,AV.asSl,AV.asInt,AV.vslOf,wIdx,zk7,zk8,zk9,zl0,zl1,zl2,zl3,st0,env0,zl4,zl5,zl6,Nat.reduceAdd,Nat.reduceEqDiff,Nat.reduceLeDiff,↓reduceIte,AV.ofV,unV,← decide_not,zl7,zl8,zl9,zm0,zm1,zm2,zm3,zm4,zm5,zm6,zm7,zm8,zm9,zn0,zn1,zn2,zn3,zn4,zn5,zn6,zn7,reduceCtorEq,rowsOf,pureCells,AV.weak,AV.pureB,AV.pureBs,zn8,zn9,zo0,zo1,zo2,Nat.reduceBEq,zo3,zo4,zo5,zo6,zo7,zo8,zo9,zp0,zp1]
  refine AW.loop (fun k st => st.env 0 = .imm (.string s) ∧ ∃ i : Nat, i + k = s.size ∧ st.env 3 = .imm (.int .i64 i) ∧ ∀ j, j < i → Word (byteAt s j)) s.size ?_ ?_
  · exact ⟨rfl, 0, by simp, rfl, by simp⟩
  · rintro k ⟨e, g, v, tg, tp, x⟩ ⟨h0, i, hi, h3, hw⟩
    simp only at h0 h3
    simp -implicitDefEqProofs only [l_pandectref05_Name_0,r_pandectref05_Name_0,h0,h3,za0,za1,za2,za3,za4,eff,AV.ptrOf,AV.tokOf,za5,za6,AV.weaks,AV.weak1,za7,za8,za9,zb0,zb1,zb2,zb3,zb4,zb5,zb6,zb7,zb8,zb9,zc0,zc1,zc2,zc3,zc4,zc5,zc6,zc7,zc8,zc9,zd0,zd1,zd2,zd3,zd4,zd5,zd6,zd7,zd8,zd9,ze0,ze1,ze2,ze3,ze4,ze5,ze6,ze7,ze8,ze9,zf0,zf1,zf2,zf3,zf4,zf5,zf6,zf7,zf8,zf9,zg0,zg1,zg2,zg3,zg4,zg5,zg6,zg7,zg8,zg9,zh0,zh1,zh2,zh3,zh4,zh5,zh6,zh7,zh8,zh9,zi0,zi1,zi2,zi3,zi4,zi5,zi6,wSnil,zi7,zi8,zi9,zj0,zj1,zj2,zj3,zj4,zj5,zj6,zj7,zj8,AV.flatB,AV.flatBs,zj9,zk0,zk1,zk2,zk3,zk4,zk5,zk6,act,AV.cells,AV.mk,AV.asSl,AV.asInt,AV.vslOf,wIdx,zk7,zk8,zk9,zl0,zl1,zl2,zl3,st0,env0,zl4,zl5,zl6,Nat.reduceAdd,Nat.reduceEqDiff,Nat.reduceLeDiff,↓reduceIte,AV.ofV,unV,← decide_not,zl7,zl8,zl9,zm0,zm1,zm2,zm3,zm4,zm5,zm6,zm7,zm8,zm9,zn0,zn1,zn2,zn3,zn4,zn5,zn6,zn7,reduceCtorEq,rowsOf,pureCells,AV.weak,AV.pureB,AV.pureBs,zn8,zn9,zo0,zo1,zo2,Nat.reduceBEq,zo3,zo4,zo5,zo6,zo7,zo8,zo9,zp0,zp1,zr0]
    refine ⟨fun hlt => ⟨⟨by omega, by omega⟩, ?_⟩, fun hge => ?_⟩
    · refine wCall_imm (word_con L _) rfl (AV.les2_refl _) ?_
      simp -implicitDefEqProofs only [h0,h3,za0,za1,za2,za3,za4,eff,AV.ptrOf,AV.tokOf,za5,za6,AV.weaks,AV.weak1,za7,za8,za9,zb0,zb1,zb2,zb3,zb4,zb5,zb6,zb7,zb8,zb9,zc0,zc1,zc2,zc3,zc4,zc5,zc6,zc7,zc8,zc9,zd0,zd1,zd2,zd3,zd4,zd5,zd6,zd7,zd8,zd9,ze0,ze1,ze2,ze3,ze4,ze5,ze6,ze7,ze8,ze9,zf0,zf1,zf2,zf3,zf4,zf5,zf6,zf7,zf8,zf9,zg0,zg1,zg2,zg3,zg4,zg5,zg6,zg7,zg8,zg9,zh0,zh1,zh2,zh3,zh4,zh5,zh6,zh7,zh8,zh9,zi0,zi1,zi2,zi3,zi4,zi5,zi6,wSnil,zi7,zi8,zi9,zj0,zj1,zj2,zj3,zj4,zj5,zj6,zj7,zj8,AV.flatB,AV.flatBs,zj9,zk0,zk1,zk2,zk3,zk4,zk5,zk6,act,AV.cells,AV.mk,AV.asSl,AV.asInt,AV.vslOf,wIdx,zk7,zk8,zk9,zl0,zl1,zl2,zl3,st0,env0,zl4,zl5,zl6,Nat.reduceAdd,Nat.reduceEqDiff,Nat.reduceLeDiff,↓reduceIte,AV.ofV,unV,← decide_not,zl7,zl8,zl9,zm0,zm1,zm2,zm3,zm4,zm5,zm6,zm7,zm8,zm9,zn0,zn1,zn2,zn3,zn4,zn5,zn6,zn7,reduceCtorEq,rowsOf,pureCells,AV.weak,AV.pureB,AV.pureBs,zn8,zn9,zo0,zo1,zo2,Nat.reduceBEq,zo3,zo4,zo5,zo6,zo7,zo8,zo9,zp0,zp1]
      refine ⟨fun hn => ?_, fun hn => ?_⟩
      · simp -implicitDefEqProofs only [c_pandectref05_Name,zp2,zp3,zp4,zp5,zp6,zp7,zp8,zp9,zq0,zq1,zl4,Nat.reduceEqDiff,↓reduceIte,zm0]
        exact (decide_eq_false fun h => hn (h.1 i (by omega))).symm
      · refine ⟨k - 1, by omega, i + 1, by omega, ?_, ?_⟩
        · rw [IntWalk.i64_in _ (by omega)]; rfl
        · intro j hj
          rcases Nat.lt_succ_iff_lt_or_eq.1 hj with h | rfl
          · exact hw j h
          · exact hn
    · simp -implicitDefEqProofs only [r_pandectref05_Name_0,h0,h3,za0,za1,za2,za3,za4,eff,AV.ptrOf,AV.tokOf,za5,za6,AV.weaks,AV.weak1,za7,za8,za9,zb0,zb1,zb2,zb3,zb4,zb5,zb6,zb7,zb8,zb9,zc0,zc1,zc2,zc3,zc4,zc5,zc6,zc7,zc8,zc9,zd0,zd1,zd2,zd3,zd4,zd5,zd6,zd7,zd8,zd9,ze0,ze1,ze2,ze3,ze4,ze5,ze6,ze7,ze8,ze9,zf0,zf1,zf2,zf3,zf4,zf5,zf6,zf7,zf8,zf9,zg0,zg1,zg2,zg3,zg4,zg5,zg6,zg7,zg8,zg9,zh0,zh1,zh2,zh3,zh4,zh5,zh6,zh7,zh8,zh9,zi0,zi1,zi2,zi3,zi4,zi5,zi6,wSnil,zi7,zi8,zi9,zj0,zj1,zj2,zj3,zj4,zj5,zj6,zj7,zj8,AV.flatB,AV.flatBs,zj9,zk0,zk1,zk2,zk3,zk4,zk5,zk6,act,AV.cells,AV.mk,AV.asSl,AV.asInt,AV.vslOf,wIdx,zk7,zk8,zk9,zl0,zl1,zl2,zl3,st0,env0,zl4,zl5,zl6,Nat.reduceAdd,Nat.reduceEqDiff,Nat.reduceLeDiff,↓reduceIte,AV.ofV,unV,← decide_not,zl7,zl8,zl9,zm0,zm1,zm2,zm3,zm4,zm5,zm6,zm7,zm8,zm9,zn0,zn1,zn2,zn3,zn4,zn5,zn6,zn7,reduceCtorEq,rowsOf,pureCells,AV.weak,AV.pureB,AV.pureBs,zn8,zn9,zo0,zo1,zo2,Nat.reduceBEq,zo3,zo4,zo5,zo6,zo7,zo8,zo9,zp0,zp1,Int.toNat_zero]
      have hall : ∀ j, j < s.size → Word (byteAt s j) := fun j hj => hw j (by omega)
      refine ⟨fun h1 => ⟨fun h2 => ⟨⟨by omega, by omega⟩, ?_⟩, fun h2 => ?_⟩, fun h1 => ?_⟩
      · refine wCall_imm (letter_con L _) rfl (AV.les2_refl _) ?_
        simp -implicitDefEqProofs only [h0,h3,za0,za1,za2,za3,za4,eff,AV.ptrOf,AV.tokOf,za5,za6,AV.weaks,AV.weak1,za7,za8,za9,zb0,zb1,zb2,zb3,zb4,zb5,zb6,zb7,zb8,zb9,zc0,zc1,zc2,zc3,zc4,zc5,zc6,zc7,zc8,zc9,zd0,zd1,zd2,zd3,zd4,zd5,zd6,zd7,zd8,zd9,ze0,ze1,ze2,ze3,ze4,ze5,ze6,ze7,ze8,ze9,zf0,zf1,zf2,zf3,zf4,zf5,zf6,zf7,zf8,zf9,zg0,zg1,zg2,zg3,zg4,zg5,zg6,zg7,zg8,zg9,zh0,zh1,zh2,zh3,zh4,zh5,zh6,zh7,zh8,zh9,zi0,zi1,zi2,zi3,zi4,zi5,zi6,wSnil,zi7,zi8,zi9,zj0,zj1,zj2,zj3,zj4,zj5,zj6,zj7,zj8,AV.flatB,AV.flatBs,zj9,zk0,zk1,zk2,zk3,zk4,zk5,zk6,act,AV.cells,AV.mk,AV.asSl,AV.asInt,AV.vslOf,wIdx,zk7,zk8,zk9,zl0,zl1,zl2,zl3,st0,env0,zl4,zl5,zl6,Nat.reduceAdd,Nat.reduceEqDiff,Nat.reduceLeDiff,↓reduceIte,AV.ofV,unV,← decide_not,zl7,zl8,zl9,zm0,zm1,zm2,zm3,zm4,zm5,zm6,zm7,zm8,zm9,zn0,zn1,zn2,zn3,zn4,zn5,zn6,zn7,reduceCtorEq,rowsOf,pureCells,AV.weak,AV.pureB,AV.pureBs,zn8,zn9,zo0,zo1,zo2,Nat.reduceBEq,zo3,zo4,zo5,zo6,zo7,zo8,zo9,zp0,zp1]
        simp -implicitDefEqProofs only [c_pandectref05_Name,zp2,zp3,zp4,zp5,zp6,zp7,zp8,zp9,zq0,zq1,zl4,Nat.reduceEqDiff,↓reduceIte,zm0]
        exact decide_eq_decide.2 ⟨fun h => ⟨hall, by omega, by omega, h⟩, fun h => h.2.2.2⟩
      · simp -implicitDefEqProofs only [c_pandectref05_Name,zp2,zp3,zp4,zp5,zp6,zp7,zp8,zp9,zq0,zq1,zl4,Nat.reduceEqDiff,↓reduceIte,zm0]
        exact (decide_eq_false fun h => h2 (by have := h.2.2.1; omega)).symm
      · simp -implicitDefEqProofs only [c_pandectref05_Name,zp2,zp3,zp4,zp5,zp6,zp7,zp8,zp9,zq0,zq1,zl4,Nat.reduceEqDiff,↓reduceIte,zm0]
        exact (decide_eq_false fun h => h1 (by have := h.2.1; omega)).symm
end Go.Av

namespace Go.Av
variable {P : Program} {T : List Nat}
theorem ba_beq (a b : ByteArray) : (a == b) = (a.data == b.data) := rfl
instance : LawfulBEq ByteArray where
  eq_of_beq {a b} h := by
    rw [ba_beq] at h
    cases a; cases b
    simpa using h
  rfl {a} := by rw [ba_beq]; simp
def srow (s : ByteArray) : List AV := [.imm (.string s)]
theorem in_con (L : Lay P T) (l : List ByteArray) (s : ByteArray) (hl : l.length ≤ 1048576) : Con P T 131 [.sl 1 .ro (l.map srow), .imm (.string s)] (.imm (.bool (decide (s ∈ l)))) := by
  refine Con_of nul L.t_pandectref18_In [] [] (by exact Nat.le_of_ble_eq_true rfl) ?_
  show wCode _ b_pandectref18_In _ _ _ _
  simp -implicitDefEqProofs only [b_pandectref18_In,za0,za1,za2,za3,za4,eff,AV.ptrOf,AV.tokOf,za5,za6,AV.weaks,AV.weak1,za7,za8,za9,zb0,zb1,zb2,zb3,zb4,zb5,zb6,zb7,zb8,zb9,zc0,zc1,zc2,zc3,zc4,zc5,zc6,zc7,zc8,zc9,zd0,zd1,zd2,zd3,zd4,zd5,zd6,zd7,zd8,zd9,ze0,ze1,ze2,ze3,ze4,ze5,ze6,ze7,ze8,ze9,zf0,zf1,zf2,zf3,zf4,zf5,zf6,zf7,zf8,zf9,zg0,zg1,zg2,zg3,zg4,zg5,zg6,zg7,zg8,zg9,zh0,zh1,zh2,zh3,zh4,zh5,zh6,zh7,zh8,zh9,zi0,zi1,zi2,zi3,zi4,zi5,zi6,wSnil,zi7,zi8,zi9,zj0,zj1,zj2,zj3,zj4,zj5,zj6,zj7,zj8,AV.flatB,AV.flatBs,zj9,zk0,zk1,zk2,zk3,zk4,zk5,zk6,act,AV.cells,AV.mk,AV.asSl,AV.asInt,AV.vslOf,wIdx,zk7,zk8,zk9,zl0,zl1,zl2,zl3,st0,env0,zl4,zl5,zl6,Nat.reduceAdd,Nat.reduceEqDiff,Nat.reduceLeDiff,↓reduceIte,AV.ofV,unV,← decide_not,zl7,zl8,zl9,zm0,zm1,zm2,zm3,zm4,zm5,zm6,zm7,zm8,zm9,zn0,zn1,zn2,zn3,zn4,zn5,zn6,zn7,reduceCtorEq,rowsOf,pureCells,AV.weak,AV.pureB,AV.pureBs,zn8,zn9,zo0,zo1,zo2,Nat.reduceBEq,zo3,zo4,zo5,zo6,zo7,zo8,zo9,zp0,zp1]
  refine AW.loop (fun k st => st.env 0 = .sl 1 .ro (l.map srow) ∧ st.env 1 = .imm (.string s) ∧ ∃ i : Nat, i + k = l.length ∧ st.env 5 = .imm (.int .i64 i) ∧ s ∉ l.take i) l.length ?_ ?_
  · exact ⟨rfl, rfl, 0, by simp, rfl, by simp⟩
  · rintro k ⟨e, g, v, tg, tp, x⟩ ⟨h0, h1, i, hi, h5, hw⟩
    simp only at h0 h1 h5
    simp -implicitDefEqProofs only [l_pandectref18_In_0,h0,h1,h5,za0,za1,za2,za3,za4,eff,AV.ptrOf,AV.tokOf,za5,za6,AV.weaks,AV.weak1,za7,za8,za9,zb0,zb1,zb2,zb3,zb4,zb5,zb6,zb7,zb8,zb9,zc0,zc1,zc2,zc3,zc4,zc5,zc6,zc7,zc8,zc9,zd0,zd1,zd2,zd3,zd4,zd5,zd6,zd7,zd8,zd9,ze0,ze1,ze2,ze3,ze4,ze5,ze6,ze7,ze8,ze9,zf0,zf1,zf2,zf3,zf4,zf5,zf6,zf7,zf8,zf9,zg0,zg1,zg2,zg3,zg4,zg5,zg6,zg7,zg8,zg9,zh0,zh1,zh2,zh3,zh4,zh5,zh6,zh7,zh8,zh9,zi0,zi1,zi2,zi3,zi4,zi5,zi6,wSnil,zi7,zi8,zi9,zj0,zj1,zj2,zj3,zj4,zj5,zj6,zj7,zj8,AV.flatB,AV.flatBs,zj9,zk0,zk1,zk2,zk3,zk4,zk5,zk6,act,AV.cells,AV.mk,AV.asSl,AV.asInt,AV.vslOf,wIdx,zk7,zk8,zk9,zl0,zl1,zl2,zl3,st0,env0,zl4,zl5,zl6,Nat.reduceAdd,Nat.reduceEqDiff,Nat.reduceLeDiff,↓reduceIte,AV.ofV,unV,← decide_not,zl7,zl8,zl9,zm0,zm1,zm2,zm3,zm4,zm5,zm6,zm7,zm8,zm9,zn0,zn1,zn2,zn3,zn4,zn5,zn6,zn7,reduceCtorEq,rowsOf,pureCells,AV.weak,AV.pureB,AV.pureBs,zn8,zn9,zo0,zo1,zo2,Nat.reduceBEq,zo3,zo4,zo5,zo6,zo7,zo8,zo9,zp0,zp1,zq9,zr1,zr2,zr3,and_imp,zr4,zr0,srow]
    refine ⟨fun hlt => ⟨⟨by omega, hlt⟩, fun a ha => ⟨fun hid => ?_, fun hid => ?_⟩⟩, fun hge => ?_⟩
    · simp -implicitDefEqProofs only [c_pandectref18_In,zp2,zp3,zp4,zp5,zp6,zp7,zp8,zp9,zq0,zq1,zl4,Nat.reduceEqDiff,↓reduceIte,zm0]
      exact (decide_eq_true (by rw [← hid]; exact List.mem_of_getElem? ha)).symm
    · refine ⟨k - 1, by omega, i + 1, by omega, ?_, ?_⟩
      · rw [IntWalk.i64_in _ (by omega)]; rfl
      · intro hm
        rw [List.take_add_one, ha] at hm
        rcases List.mem_append.1 hm with hm | hm
        · exact hw hm
        · simp at hm; exact hid hm.symm
    · simp -implicitDefEqProofs only [c_pandectref18_In,zp2,zp3,zp4,zp5,zp6,zp7,zp8,zp9,zq0,zq1,zl4,Nat.reduceEqDiff,↓reduceIte,zm0]
      rw [List.take_of_length_le (by omega)] at hw
      exact (decide_eq_false hw).symm
def LowDig (c : Int) : Prop := (48 ≤ c ∧ c ≤ 57) ∨ (97 ≤ c ∧ c ≤ 122)
instance (c : Int) : Decidable (LowDig c) := inferInstanceAs (Decidable (_ ∨ _))
def NumP (s : ByteArray) : Prop := (∀ i, i < s.size → LowDig (byteAt s i)) ∧ s.size ≤ 8
instance (s : ByteArray) : Decidable (NumP s) := inferInstanceAs (Decidable (_ ∧ _))
theorem number_con (L : Lay P T) (s : ByteArray) (hs : s.size ≤ 1048576) : Con P T 118 [.imm (.string s)] (.imm (.bool (decide (NumP s)))) := by
  refine Con_of nul L.t_pandectref18_number [] [] (by exact Nat.le_of_ble_eq_true rfl) ?_
  show wCode _ b_pandectref18_number _ _ _ _
  simp -implicitDefEqProofs only [b_pandectref18_number,za0,za1,za2,za3,za4,eff,AV.ptrOf,AV.tokOf,za5,za6,AV.weaks,AV.weak1,za7,za8,za9,zb0,zb1,zb2,zb3,zb4,zb5,zb6,zb7,zb8,zb9,zc0,zc1,zc2,zc3,zc4,zc5,zc6,zc7,zc8,zc9,zd0,zd1,zd2,zd3,zd4,zd5,zd6,zd7,zd8,zd9,ze0,ze1,ze2,ze3,ze4,ze5,ze6,ze7,ze8,ze9,zf0,zf1,zf2,zf3,zf4,zf5,zf6,zf7,zf8,zf9,zg0,zg1,zg2,zg3,zg4,zg5,zg6,zg7,zg8,zg9,zh0,zh1,zh2,zh3,zh4,zh5,zh6,zh7,zh8,zh9,zi0,zi1,zi2,zi3,zi4,zi5,zi6,wSnil,zi7,zi8,zi9,zj0,zj1,zj2,zj3,zj4,zj5,zj6,zj7,zj8,AV.flatB,AV.flatBs,zj9,zk0,zk1,zk2,zk3,zk4,zk5,zk6,act,AV.cells,AV.mk,AV.asSl,AV.asInt,AV.vslOf,wIdx,zk7,zk8,zk9,zl0,zl1,zl2,zl3,st0,env0,zl4,zl5,zl6,Nat.reduceAdd,Nat.reduceEqDiff,Nat.reduceLeDiff,↓reduceIte,AV.ofV,unV,← decide_not,zl7,zl8,zl9,zm0,zm1,zm2,zm3,zm4,zm5,zm6,zm7,zm8,zm9,zn0,zn1,zn2,zn3,zn4,zn5,zn6,zn7,reduceCtorEq,rowsOf,pureCells,AV.weak,AV.pureB,AV.pureBs,zn8,zn9,zo0,zo1,zo2,Nat.reduceBEq,zo3,zo4,zo5,zo6,zo7,zo8,zo9,zp0,zp1]
  refine AW.loop (fun k st => st.env 0 = .imm (.string s) ∧ ∃ i : Nat, i + k = s.size ∧ st.env 3 = .imm (.int .i64 i) ∧ ∀ j, j < i → LowDig (byteAt s j)) s.size ?_ ?_
  · exact ⟨rfl, 0, by simp, rfl, by simp⟩
  · rintro k ⟨e, g, v, tg, tp, x⟩ ⟨h0, i, hi, h3, hw⟩
    simp only at h0 h3
    have good : LowDig (byteAt s i) → i < s.size → ∃ n', n' < k ∧ ∃ i', i' + n' = s.size ∧ AV.imm (.int .i64 (IntKind.i64.wrap ((i : Int) + 1))) = .imm (.int .i64 i') ∧ ∀ j, j < i' → LowDig (byteAt s j) := by
      intro h hlt
      refine ⟨k - 1, by omega, i + 1, by omega, ?_, ?_⟩
      · rw [IntWalk.i64_in _ (by omega)]; rfl
      · intro j hj
        rcases Nat.lt_succ_iff_lt_or_eq.1 hj with h' | rfl
        · exact hw j h'
        · exact h
    have bad : ¬ LowDig (byteAt s i) → i < s.size → false = decide (NumP s) := fun h hlt => (decide_eq_false fun h' => h (h'.1 i hlt)).symm
    have hb : ((s.data.toList.getD i 0).toNat : Int) = byteAt s i := rfl
    simp -implicitDefEqProofs only [l_pandectref18_number_0,h0,h3,za0,za1,za2,za3,za4,eff,AV.ptrOf,AV.tokOf,za5,za6,AV.weaks,AV.weak1,za7,za8,za9,zb0,zb1,zb2,zb3,zb4,zb5,zb6,zb7,zb8,zb9,zc0,zc1,zc2,zc3,zc4,zc5,zc6,zc7,zc8,zc9,zd0,zd1,zd2,zd3,zd4,zd5,zd6,zd7,zd8,zd9,ze0,ze1,ze2,ze3,ze4,ze5,ze6,ze7,ze8,ze9,zf0,zf1,zf2,zf3,zf4,zf5,zf6,zf7,zf8,zf9,zg0,zg1,zg2,zg3,zg4,zg5,zg6,zg7,zg8,zg9,zh0,zh1,zh2,zh3,zh4,zh5,zh6,zh7,zh8,zh9,zi0,zi1,zi2,zi3,zi4,zi5,zi6,wSnil,zi7,zi8,zi9,zj0,zj1,zj2,zj3,zj4,zj5,zj6,zj7,zj8,AV.flatB,AV.flatBs,zj9,zk0,zk1,zk2,zk3,zk4,zk5,zk6,act,AV.cells,AV.mk,AV.asSl,AV.asInt,AV.vslOf,wIdx,zk7,zk8,zk9,zl0,zl1,zl2,zl3,st0,env0,zl4,zl5,zl6,Nat.reduceAdd,Nat.reduceEqDiff,Nat.reduceLeDiff,↓reduceIte,AV.ofV,unV,← decide_not,zl7,zl8,zl9,zm0,zm1,zm2,zm3,zm4,zm5,zm6,zm7,zm8,zm9,zn0,zn1,zn2,zn3,zn4,zn5,zn6,zn7,reduceCtorEq,rowsOf,pureCells,AV.weak,AV.pureB,AV.pureBs,zn8,zn9,zo0,zo1,zo2,Nat.reduceBEq,zo3,zo4,zo5,zo6,zo7,zo8,zo9,zp0,zp1,zr0,hb]
    simp -implicitDefEqProofs only [c_pandectref18_number,zp2,zp3,zp4,zp5,zp6,zp7,zp8,zp9,zq0,zq1,zl4,Nat.reduceEqDiff,↓reduceIte,zm0]
    refine ⟨fun hlt => ?_, fun hge => ?_⟩
    · repeat' (first | apply And.intro | intro _)
      all_goals first
        | omega
        | exact bad (by simp only [LowDig]; omega) (by omega)
        | exact good (by simp only [LowDig]; omega) (by omega)
    · exact decide_eq_decide.2 ⟨fun h => ⟨fun j hj => hw j (by omega), by omega⟩, fun h => by have := h.2; omega⟩
structure Item where
  kind : Int
  id : ByteArray
  parent : ByteArray
  number : ByteArray
  north : ByteArray
  south : ByteArray
  gone : Bool
  deriving DecidableEq
def Item.row (x : Item) : List AV := [.imm (.int .i64 x.kind), .imm (.string x.id), .imm (.string x.parent), .imm (.string x.number), .imm (.string x.north), .imm (.string x.south), .imm (.bool (tb x.gone))]
def findS (id : ByteArray) : List Item → Int
  | [] => -1
  | x :: l => if x.id = id then 0 else (let r := findS id l; if r < 0 then -1 else r + 1)
theorem findS_eq : ∀ (l : List Item) (id : ByteArray) (i : Nat) (a : Item), l[i]? = some a → a.id = id → (∀ j (h : j < l.length), j < i → l[j].id ≠ id) → (i : Int) = findS id l
  | [], id, i, a, h, _, _ => by simp at h
  | x :: l, id, 0, a, h, hid, _ => by
    simp at h
    subst h
    simp [findS, hid]
  | x :: l, id, i + 1, a, h, hid, hn => by
    have h0 := hn 0 (by simp) (by omega)
    have := findS_eq l id i a (by simpa using h) hid fun j hj hji => hn (j + 1) (by simpa using hj) (by omega)
    simp only [List.getElem_cons_zero] at h0
    simp only [findS,h0,zo4,← this]
    split <;> omega
theorem findS_none : ∀ (l : List Item) (id : ByteArray), (∀ j (h : j < l.length), l[j].id ≠ id) → findS id l = -1
  | [], id, _ => rfl
  | x :: l, id, hn => by
    have h0 := hn 0 (by simp)
    have := findS_none l id fun j hj => hn (j + 1) (by simpa using hj)
    simp only [List.getElem_cons_zero] at h0
    simp [findS, h0, this]
theorem find_con (L : Lay P T) (l : List Item) (id : ByteArray) (hl : l.length ≤ 1048576) : Con P T 85 [.agg [.sl 7 .ro (l.map Item.row)], .imm (.string id)] (.imm (.int .i64 (findS id l))) := by
  refine Con_of nul L.t_pandectref18_Find [] [] (by exact Nat.le_of_ble_eq_true rfl) ?_
  show wCode _ b_pandectref18_Find _ _ _ _
  simp -implicitDefEqProofs only [b_pandectref18_Find,za0,za1,za2,za3,za4,eff,AV.ptrOf,AV.tokOf,za5,za6,AV.weaks,AV.weak1,za7,za8,za9,zb0,zb1,zb2,zb3,zb4,zb5,zb6,zb7,zb8,zb9,zc0,zc1,zc2,zc3,zc4,zc5,zc6,zc7,zc8,zc9,zd0,zd1,zd2,zd3,zd4,zd5,zd6,zd7,zd8,zd9,ze0,ze1,ze2,ze3,ze4,ze5,ze6,ze7,ze8,ze9,zf0,zf1,zf2,zf3,zf4,zf5,zf6,zf7,zf8,zf9,zg0,zg1,zg2,zg3,zg4,zg5,zg6,zg7,zg8,zg9,zh0,zh1,zh2,zh3,zh4,zh5,zh6,zh7,zh8,zh9,zi0,zi1,zi2,zi3,zi4,zi5,zi6,wSnil,zi7,zi8,zi9,zj0,zj1,zj2,zj3,zj4,zj5,zj6,zj7,zj8,AV.flatB,AV.flatBs,zj9,zk0,zk1,zk2,zk3,zk4,zk5,zk6,act,AV.cells,AV.mk,AV.asSl,AV.asInt,AV.vslOf,wIdx,zk7,zk8,zk9,zl0,zl1,zl2,zl3,st0,env0,zl4,zl5,zl6,Nat.reduceAdd,Nat.reduceEqDiff,Nat.reduceLeDiff,↓reduceIte,AV.ofV,unV,← decide_not,zl7,zl8,zl9,zm0,zm1,zm2,zm3,zm4,zm5,zm6,zm7,zm8,zm9,zn0,zn1,zn2,zn3,zn4,zn5,zn6,zn7,reduceCtorEq,rowsOf,pureCells,AV.weak,AV.pureB,AV.pureBs,zn8,zn9,zo0,zo1,zo2,Nat.reduceBEq,zo3,zo4,zo5,zo6,zo7,zo8,zo9,zp0,zp1]
  refine AW.loop (fun k s => s.env 1 = .imm (.string id) ∧ s.env 2 = .ptr 2 1 0 ∧ s.gen 2 = 1 ∧ s.var 2 = [.sl 7 .ro (l.map Item.row)] ∧ ∃ i : Nat, i + k = l.length ∧ s.env 5 = .imm (.int .i64 i) ∧ ∀ j (h : j < l.length), j < i → l[j].id ≠ id) l.length ?_ ?_
  · exact ⟨rfl, rfl, rfl, rfl, 0, by simp, rfl, by simp⟩
  · rintro k ⟨e, g, v, tg, tp, x⟩ ⟨h1, h2, h3, h4, i, hi, h5, hn⟩
    simp only at h1 h2 h3 h4 h5
    simp -implicitDefEqProofs only [l_pandectref18_Find_0,h1,h2,h3,h4,h5,za0,za1,za2,za3,za4,eff,AV.ptrOf,AV.tokOf,za5,za6,AV.weaks,AV.weak1,za7,za8,za9,zb0,zb1,zb2,zb3,zb4,zb5,zb6,zb7,zb8,zb9,zc0,zc1,zc2,zc3,zc4,zc5,zc6,zc7,zc8,zc9,zd0,zd1,zd2,zd3,zd4,zd5,zd6,zd7,zd8,zd9,ze0,ze1,ze2,ze3,ze4,ze5,ze6,ze7,ze8,ze9,zf0,zf1,zf2,zf3,zf4,zf5,zf6,zf7,zf8,zf9,zg0,zg1,zg2,zg3,zg4,zg5,zg6,zg7,zg8,zg9,zh0,zh1,zh2,zh3,zh4,zh5,zh6,zh7,zh8,zh9,zi0,zi1,zi2,zi3,zi4,zi5,zi6,wSnil,zi7,zi8,zi9,zj0,zj1,zj2,zj3,zj4,zj5,zj6,zj7,zj8,AV.flatB,AV.flatBs,zj9,zk0,zk1,zk2,zk3,zk4,zk5,zk6,act,AV.cells,AV.mk,AV.asSl,AV.asInt,AV.vslOf,wIdx,zk7,zk8,zk9,zl0,zl1,zl2,zl3,st0,env0,zl4,zl5,zl6,Nat.reduceAdd,Nat.reduceEqDiff,Nat.reduceLeDiff,↓reduceIte,AV.ofV,unV,← decide_not,zl7,zl8,zl9,zm0,zm1,zm2,zm3,zm4,zm5,zm6,zm7,zm8,zm9,zn0,zn1,zn2,zn3,zn4,zn5,zn6,zn7,reduceCtorEq,rowsOf,pureCells,AV.weak,AV.pureB,AV.pureBs,zn8,zn9,zo0,zo1,zo2,Nat.reduceBEq,zo3,zo4,zo5,zo6,zo7,zo8,zo9,zp0,zp1,zq9,zr1,zr2,zr3,and_imp,zr4,zr0,Item.row]
    refine ⟨fun hlt => ⟨⟨by omega, hlt⟩, fun a ha => ⟨fun hid => ?_, fun hid => ?_⟩⟩, fun hge => ?_⟩
    · simp -implicitDefEqProofs only [c_pandectref18_Find,zp2,zp3,zp4,zp5,zp6,zp7,zp8,zp9,zq0,zq1,zl4,Nat.reduceEqDiff,↓reduceIte,zm0]
      exact ⟨trivial, findS_eq l id i a ha hid hn⟩
    · refine ⟨k - 1, by omega, i + 1, by omega, ?_, ?_⟩
      · rw [IntWalk.i64_in _ (by omega)]
        rfl
      · intro j hj hji
        rcases Nat.lt_succ_iff_lt_or_eq.1 hji with h | rfl
        · exact hn j hj h
        · rw [List.getElem?_eq_getElem hj] at ha
          injection ha with ha
          rw [ha]; exact hid
    · simp -implicitDefEqProofs only [c_pandectref18_Find,zp2,zp3,zp4,zp5,zp6,zp7,zp8,zp9,zq0,zq1,zl4,Nat.reduceEqDiff,↓reduceIte,zm0]
      exact ⟨trivial, (findS_none l id fun j h => hn j h (by omega)).symm⟩
def nilS : ByteArray := ⟨#[]⟩
theorem findS_range : ∀ (l : List Item) (id : ByteArray), findS id l = -1 ∨ ∃ p : Nat, findS id l = p ∧ p < l.length
  | [], id => .inl rfl
  | x :: l, id => by
    simp only [findS]
    by_cases h : x.id = id
    · rw [if_pos h]; exact .inr ⟨0, rfl, by simp⟩
    · rw [if_neg h]
      rcases findS_range l id with h1 | ⟨p, h1, h2⟩
      · simp [h1]
      · refine .inr ⟨p + 1, ?_, by simp; omega⟩
        rw [h1]; simp; omega
end Go.Av

namespace Go.Av
variable {P : Program} {T : List Nat}
theorem item_eq (a b : Item) : eqCells [1, 2, 2, 2, 2, 2, 0] a.row b.row = some (decide (a = b)) := by
  have e1 : (a.kind == b.kind) = decide (a.kind = b.kind) := by by_cases h : a.kind = b.kind <;> simp [h]
  have e2 : (a.gone == b.gone) = decide (a.gone = b.gone) := by by_cases h : a.gone = b.gone <;> simp [h]
  simp only [Item.row,eqCells,eqCell,zo3,bytes_beq,tb,e1,e2]
  congr 1
  cases a; cases b
  simp only [Item.mk.injEq,Bool.decide_and,zo1]
theorem same_con (L : Lay P T) (l m : List Item) (hl : l.length ≤ 1048576) : Con P T 53 [.agg [.sl 7 .ro (l.map Item.row)], .agg [.sl 7 .ro (m.map Item.row)]] (.imm (.bool (decide (l = m)))) := by
  refine Con_of nul L.t_pandectref18_Same [] [] (by exact Nat.le_of_ble_eq_true rfl) ?_
  show wCode _ b_pandectref18_Same _ _ _ _
  simp -implicitDefEqProofs only [b_pandectref18_Same,za0,za1,za2,za3,za4,eff,AV.ptrOf,AV.tokOf,za5,za6,AV.weaks,AV.weak1,za7,za8,za9,zb0,zb1,zb2,zb3,zb4,zb5,zb6,zb7,zb8,zb9,zc0,zc1,zc2,zc3,zc4,zc5,zc6,zc7,zc8,zc9,zd0,zd1,zd2,zd3,zd4,zd5,zd6,zd7,zd8,zd9,ze0,ze1,ze2,ze3,ze4,ze5,ze6,ze7,ze8,ze9,zf0,zf1,zf2,zf3,zf4,zf5,zf6,zf7,zf8,zf9,zg0,zg1,zg2,zg3,zg4,zg5,zg6,zg7,zg8,zg9,zh0,zh1,zh2,zh3,zh4,zh5,zh6,zh7,zh8,zh9,zi0,zi1,zi2,zi3,zi4,zi5,zi6,wSnil,zi7,zi8,zi9,zj0,zj1,zj2,zj3,zj4,zj5,zj6,zj7,zj8,AV.flatB,AV.flatBs,zj9,zk0,zk1,zk2,zk3,zk4,zk5,zk6,act,AV.cells,AV.mk,AV.asSl,AV.asInt,AV.vslOf,wIdx,zk7,zk8,zk9,zl0,zl1,zl2,zl3,st0,env0,zl4,zl5,zl6,Nat.reduceAdd,Nat.reduceEqDiff,Nat.reduceLeDiff,↓reduceIte,AV.ofV,unV,← decide_not,zl7,zl8,zl9,zm0,zm1,zm2,zm3,zm4,zm5,zm6,zm7,zm8,zm9,zn0,zn1,zn2,zn3,zn4,zn5,zn6,zn7,reduceCtorEq,rowsOf,pureCells,AV.weak,AV.pureB,AV.pureBs,zn8,zn9,zo0,zo1,zo2,Nat.reduceBEq,zo3,zo4,zo5,zo6,zo7,zo8,zo9,zp0,zp1,zq9]
  refine ⟨fun h => ?_, fun h => ?_⟩
  · simp -implicitDefEqProofs only [c_pandectref18_Same,zp2,zp3,zp4,zp5,zp6,zp7,zp8,zp9,zq0,zq1,zl4,Nat.reduceEqDiff,↓reduceIte,zm0]
    exact (decide_eq_false fun e => h (by rw [e])).symm
  · refine AW.loop (fun k s => s.env 2 = .ptr 2 1 0 ∧ s.env 3 = .ptr 3 1 0 ∧ s.gen 2 = 1 ∧ s.gen 3 = 1 ∧ s.var 2 = [.sl 7 .ro (l.map Item.row)] ∧ s.var 3 = [.sl 7 .ro (m.map Item.row)] ∧ ∃ i : Nat, i + k = l.length ∧ s.env 5 = .imm (.int .i64 i) ∧ l.take i = m.take i) l.length ?_ ?_
    · exact ⟨rfl, rfl, rfl, rfl, rfl, rfl, 0, by simp, rfl, by simp⟩
    · rintro k ⟨e, g, v, tg, tp, x⟩ ⟨h2, h3, g2, g3, v2, v3, i, hi, h5, hn⟩
      simp only at h2 h3 g2 g3 v2 v3 h5
      have he := item_eq
      simp only [Item.row] at he
      simp -implicitDefEqProofs only [l_pandectref18_Same_0,he,h2,h3,g2,g3,v2,v3,h5,za0,za1,za2,za3,za4,eff,AV.ptrOf,AV.tokOf,za5,za6,AV.weaks,AV.weak1,za7,za8,za9,zb0,zb1,zb2,zb3,zb4,zb5,zb6,zb7,zb8,zb9,zc0,zc1,zc2,zc3,zc4,zc5,zc6,zc7,zc8,zc9,zd0,zd1,zd2,zd3,zd4,zd5,zd6,zd7,zd8,zd9,ze0,ze1,ze2,ze3,ze4,ze5,ze6,ze7,ze8,ze9,zf0,zf1,zf2,zf3,zf4,zf5,zf6,zf7,zf8,zf9,zg0,zg1,zg2,zg3,zg4,zg5,zg6,zg7,zg8,zg9,zh0,zh1,zh2,zh3,zh4,zh5,zh6,zh7,zh8,zh9,zi0,zi1,zi2,zi3,zi4,zi5,zi6,wSnil,zi7,zi8,zi9,zj0,zj1,zj2,zj3,zj4,zj5,zj6,zj7,zj8,AV.flatB,AV.flatBs,zj9,zk0,zk1,zk2,zk3,zk4,zk5,zk6,act,AV.cells,AV.mk,AV.asSl,AV.asInt,AV.vslOf,wIdx,zk7,zk8,zk9,zl0,zl1,zl2,zl3,st0,env0,zl4,zl5,zl6,Nat.reduceAdd,Nat.reduceEqDiff,Nat.reduceLeDiff,↓reduceIte,AV.ofV,unV,← decide_not,zl7,zl8,zl9,zm0,zm1,zm2,zm3,zm4,zm5,zm6,zm7,zm8,zm9,zn0,zn1,zn2,zn3,zn4,zn5,zn6,zn7,reduceCtorEq,rowsOf,pureCells,AV.weak,AV.pureB,AV.pureBs,zn8,zn9,zo0,zo1,zo2,Nat.reduceBEq,zo3,zo4,zo5,zo6,zo7,zo8,zo9,zp0,zp1,zq9,zr1,zr2,zr3,and_imp,zr4,zr0,Item.row]
      refine ⟨fun hlt => ⟨⟨by omega, hlt⟩, fun a ha => ⟨⟨by omega, by omega⟩, fun b hb => ⟨rfl, fun hne => ?_, fun heq => ?_⟩⟩⟩, fun hge => ?_⟩
      · simp -implicitDefEqProofs only [c_pandectref18_Same,zp2,zp3,zp4,zp5,zp6,zp7,zp8,zp9,zq0,zq1,zl4,Nat.reduceEqDiff,↓reduceIte,zm0]
        exact (decide_eq_false fun e => hne (by rw [e, hb] at ha; injection ha with ha; exact ha.symm)).symm
      · refine ⟨k - 1, by omega, i + 1, by omega, ?_, ?_⟩
        · rw [IntWalk.i64_in _ (by omega)]; rfl
        · rw [List.take_add_one, List.take_add_one, hn, ha, hb, heq]
      · simp -implicitDefEqProofs only [c_pandectref18_Same,zp2,zp3,zp4,zp5,zp6,zp7,zp8,zp9,zq0,zq1,zl4,Nat.reduceEqDiff,↓reduceIte,zm0]
        refine (decide_eq_true ?_).symm
        rw [List.take_of_length_le (by omega), List.take_of_length_le (by omega)] at hn
        exact hn
end Go.Av

namespace Go.Av
variable {P : Program} {T : List Nat}
theorem Item.weak (x : Item) : x.row.map AV.weak = x.row := rfl
theorem Item.pure (x : Item) : AV.pureBs x.row = true := rfl
theorem idxOf_at {α : Type} [BEq α] [LawfulBEq α] : ∀ {l : List α} {s : α} {n : Nat}, l[n]? = some s → (∀ j, j < n → l[j]? ≠ some s) → l.idxOf s = n
  | [], _, _, h, _ => by simp at h
  | a :: l, s, 0, h, _ => by
    simp at h
    simp [h]
  | a :: l, s, n + 1, h, hn => by
    have h0 := hn 0 (by omega)
    simp at h0
    rw [List.idxOf_cons]
    have : (a == s) = false := by simpa using h0
    rw [this]
    simp only [cond_false]
    rw [idxOf_at (l := l) (by simpa using h) fun j hj => by simpa using hn (j + 1) (by omega)]
/-- slices.Index at strings; an index that is not negative says that it is there. -/
theorem sindex_con (L : Lay P T) (l : List ByteArray) (s : ByteArray) (hl : l.length ≤ 1048576) : ∃ n : Int, (0 ≤ n ↔ s ∈ l) ∧ (s ∈ l → n = l.idxOf s) ∧ (s ∉ l → n = -1) ∧ Con P T 109 [.sl 1 .ro (l.map srow), .imm (.string s)] (.imm (.int .i64 n)) := by
  by_cases hm : s ∈ l
  · obtain ⟨n, hn, hn2⟩ : ∃ n : Nat, l[n]? = some s ∧ ∀ j, j < n → l[j]? ≠ some s := by
      have hex : ∃ n : Nat, l[n]? = some s := by
        obtain ⟨n, hn, rfl⟩ := List.mem_iff_getElem.1 hm
        exact ⟨n, List.getElem?_eq_getElem hn⟩
      obtain ⟨n, hn⟩ := hex
      induction n using Nat.strongRecOn with
      | ind n ih =>
        by_cases h : ∃ j, j < n ∧ l[j]? = some s
        · obtain ⟨j, hj, hjs⟩ := h
          exact ih j hj hjs
        · exact ⟨n, hn, fun j hj hjs => h ⟨j, hj, hjs⟩⟩
    refine ⟨n, by simp [hm], fun _ => by rw [idxOf_at hn hn2], fun h => absurd hm h, ?_⟩
    refine Con_of nul L.t_slices_Index [] [] (by exact Nat.le_of_ble_eq_true rfl) ?_
    show wCode _ b_slices_Index _ _ _ _
    simp -implicitDefEqProofs only [b_slices_Index,za0,za1,za2,za3,za4,eff,AV.ptrOf,AV.tokOf,za5,za6,AV.weaks,AV.weak1,za7,za8,za9,zb0,zb1,zb2,zb3,zb4,zb5,zb6,zb7,zb8,zb9,zc0,zc1,zc2,zc3,zc4,zc5,zc6,zc7,zc8,zc9,zd0,zd1,zd2,zd3,zd4,zd5,zd6,zd7,zd8,zd9,ze0,ze1,ze2,ze3,ze4,ze5,ze6,ze7,ze8,ze9,zf0,zf1,zf2,zf3,zf4,zf5,zf6,zf7,zf8,zf9,zg0,zg1,zg2,zg3,zg4,zg5,zg6,zg7,zg8,zg9,zh0,zh1,zh2,zh3,zh4,zh5,zh6,zh7,zh8,zh9,zi0,zi1,zi2,zi3,zi4,zi5,zi6,wSnil,zi7,zi8,zi9,zj0,zj1,zj2,zj3,zj4,zj5,zj6,zj7,zj8,AV.flatB,AV.flatBs,zj9,zk0,zk1,zk2,zk3,zk4,zk5,zk6,act,AV.cells,AV.mk,AV.asSl,AV.asInt,AV.vslOf,wIdx,zk7,zk8,zk9,zl0,zl1,zl2,zl3,st0,env0,zl4,zl5,zl6,Nat.reduceAdd,Nat.reduceEqDiff,Nat.reduceLeDiff,↓reduceIte,AV.ofV,unV,← decide_not,zl7,zl8,zl9,zm0,zm1,zm2,zm3,zm4,zm5,zm6,zm7,zm8,zm9,zn0,zn1,zn2,zn3,zn4,zn5,zn6,zn7,reduceCtorEq,rowsOf,pureCells,AV.weak,AV.pureB,AV.pureBs,zn8,zn9,zo0,zo1,zo2,Nat.reduceBEq,zo3,zo4,zo5,zo6,zo7,zo8,zo9,zp0,zp1,zq9]
    refine AW.loop (fun k st => st.env 0 = .sl 1 .ro (l.map srow) ∧ st.env 1 = .imm (.string s) ∧ st.env 7 = .imm (.int .i64 l.length) ∧ ∃ i : Nat, i + k = l.length ∧ st.env 8 = .imm (.int .i64 i) ∧ i ≤ n) l.length ?_ ?_
    · exact ⟨rfl, rfl, rfl, 0, by simp, rfl, Nat.zero_le _⟩
    · rintro k ⟨e, g, v, tg, tp, x⟩ ⟨h0, h1, h7, i, hi, h8, hin⟩
      simp only at h0 h1 h7 h8
      have hnl := (List.getElem?_eq_some_iff.1 hn).1
      simp -implicitDefEqProofs only [l_slices_Index_0,h0,h1,h7,h8,za0,za1,za2,za3,za4,eff,AV.ptrOf,AV.tokOf,za5,za6,AV.weaks,AV.weak1,za7,za8,za9,zb0,zb1,zb2,zb3,zb4,zb5,zb6,zb7,zb8,zb9,zc0,zc1,zc2,zc3,zc4,zc5,zc6,zc7,zc8,zc9,zd0,zd1,zd2,zd3,zd4,zd5,zd6,zd7,zd8,zd9,ze0,ze1,ze2,ze3,ze4,ze5,ze6,ze7,ze8,ze9,zf0,zf1,zf2,zf3,zf4,zf5,zf6,zf7,zf8,zf9,zg0,zg1,zg2,zg3,zg4,zg5,zg6,zg7,zg8,zg9,zh0,zh1,zh2,zh3,zh4,zh5,zh6,zh7,zh8,zh9,zi0,zi1,zi2,zi3,zi4,zi5,zi6,wSnil,zi7,zi8,zi9,zj0,zj1,zj2,zj3,zj4,zj5,zj6,zj7,zj8,AV.flatB,AV.flatBs,zj9,zk0,zk1,zk2,zk3,zk4,zk5,zk6,act,AV.cells,AV.mk,AV.asSl,AV.asInt,AV.vslOf,wIdx,zk7,zk8,zk9,zl0,zl1,zl2,zl3,st0,env0,zl4,zl5,zl6,Nat.reduceAdd,Nat.reduceEqDiff,Nat.reduceLeDiff,↓reduceIte,AV.ofV,unV,← decide_not,zl7,zl8,zl9,zm0,zm1,zm2,zm3,zm4,zm5,zm6,zm7,zm8,zm9,zn0,zn1,zn2,zn3,zn4,zn5,zn6,zn7,reduceCtorEq,rowsOf,pureCells,AV.weak,AV.pureB,AV.pureBs,zn8,zn9,zo0,zo1,zo2,Nat.reduceBEq,zo3,zo4,zo5,zo6,zo7,zo8,zo9,zp0,zp1,zq9,zr1,zr2,zr3,and_imp,zr4,zr0,srow]
      refine ⟨fun hlt => ⟨⟨by omega, by omega⟩, fun a ha => ⟨fun he => ?_, fun he => ?_⟩⟩, fun hge => absurd hge (by omega)⟩
      · simp -implicitDefEqProofs only [c_slices_Index,zp2,zp3,zp4,zp5,zp6,zp7,zp8,zp9,zq0,zq1,zl4,Nat.reduceEqDiff,↓reduceIte,zm0]
        have : i = n := by
          rcases Nat.lt_or_ge i n with h | h
          · exact absurd (by rw [ha, ← he]) (hn2 i h)
          · omega
        rw [this]
        simp
      · refine ⟨k - 1, by omega, i + 1, by omega, ?_, ?_⟩
        · rw [IntWalk.i64_in _ (by omega)]; rfl
        · rcases Nat.lt_or_ge i n with h | h
          · omega
          · have : i = n := by omega
            subst this
            rw [hn] at ha
            injection ha with ha
            exact absurd ha he
  · refine ⟨-1, by simp [hm], fun h => absurd h hm, fun _ => rfl, ?_⟩
    refine Con_of nul L.t_slices_Index [] [] (by exact Nat.le_of_ble_eq_true rfl) ?_
    show wCode _ b_slices_Index _ _ _ _
    simp -implicitDefEqProofs only [b_slices_Index,za0,za1,za2,za3,za4,eff,AV.ptrOf,AV.tokOf,za5,za6,AV.weaks,AV.weak1,za7,za8,za9,zb0,zb1,zb2,zb3,zb4,zb5,zb6,zb7,zb8,zb9,zc0,zc1,zc2,zc3,zc4,zc5,zc6,zc7,zc8,zc9,zd0,zd1,zd2,zd3,zd4,zd5,zd6,zd7,zd8,zd9,ze0,ze1,ze2,ze3,ze4,ze5,ze6,ze7,ze8,ze9,zf0,zf1,zf2,zf3,zf4,zf5,zf6,zf7,zf8,zf9,zg0,zg1,zg2,zg3,zg4,zg5,zg6,zg7,zg8,zg9,zh0,zh1,zh2,zh3,zh4,zh5,zh6,zh7,zh8,zh9,zi0,zi1,zi2,zi3,zi4,zi5,zi6,wSnil,zi7,zi8,zi9,zj0,zj1,zj2,zj3,zj4,zj5,zj6,zj7,zj8,AV.flatB,AV.flatBs,zj9,zk0,zk1,zk2,zk3,zk4,zk5,zk6,act,AV.cells,AV.mk,AV.asSl,AV.asInt,AV.vslOf,wIdx,zk7,zk8,zk9,zl0,zl1,zl2,zl3,st0,env0,zl4,zl5,zl6,Nat.reduceAdd,Nat.reduceEqDiff,Nat.reduceLeDiff,↓reduceIte,AV.ofV,unV,← decide_not,zl7,zl8,zl9,zm0,zm1,zm2,zm3,zm4,zm5,zm6,zm7,zm8,zm9,zn0,zn1,zn2,zn3,zn4,zn5,zn6,zn7,reduceCtorEq,rowsOf,pureCells,AV.weak,AV.pureB,AV.pureBs,zn8,zn9,zo0,zo1,zo2,Nat.reduceBEq,zo3,zo4,zo5,zo6,zo7,zo8,zo9,zp0,zp1,zq9]
    refine AW.loop (fun k st => st.env 0 = .sl 1 .ro (l.map srow) ∧ st.env 1 = .imm (.string s) ∧ st.env 7 = .imm (.int .i64 l.length) ∧ ∃ i : Nat, i + k = l.length ∧ st.env 8 = .imm (.int .i64 i)) l.length ?_ ?_
    · exact ⟨rfl, rfl, rfl, 0, by simp, rfl⟩
    · rintro k ⟨e, g, v, tg, tp, x⟩ ⟨h0, h1, h7, i, hi, h8⟩
      simp only at h0 h1 h7 h8
      simp -implicitDefEqProofs only [l_slices_Index_0,h0,h1,h7,h8,za0,za1,za2,za3,za4,eff,AV.ptrOf,AV.tokOf,za5,za6,AV.weaks,AV.weak1,za7,za8,za9,zb0,zb1,zb2,zb3,zb4,zb5,zb6,zb7,zb8,zb9,zc0,zc1,zc2,zc3,zc4,zc5,zc6,zc7,zc8,zc9,zd0,zd1,zd2,zd3,zd4,zd5,zd6,zd7,zd8,zd9,ze0,ze1,ze2,ze3,ze4,ze5,ze6,ze7,ze8,ze9,zf0,zf1,zf2,zf3,zf4,zf5,zf6,zf7,zf8,zf9,zg0,zg1,zg2,zg3,zg4,zg5,zg6,zg7,zg8,zg9,zh0,zh1,zh2,zh3,zh4,zh5,zh6,zh7,zh8,zh9,zi0,zi1,zi2,zi3,zi4,zi5,zi6,wSnil,zi7,zi8,zi9,zj0,zj1,zj2,zj3,zj4,zj5,zj6,zj7,zj8,AV.flatB,AV.flatBs,zj9,zk0,zk1,zk2,zk3,zk4,zk5,zk6,act,AV.cells,AV.mk,AV.asSl,AV.asInt,AV.vslOf,wIdx,zk7,zk8,zk9,zl0,zl1,zl2,zl3,st0,env0,zl4,zl5,zl6,Nat.reduceAdd,Nat.reduceEqDiff,Nat.reduceLeDiff,↓reduceIte,AV.ofV,unV,← decide_not,zl7,zl8,zl9,zm0,zm1,zm2,zm3,zm4,zm5,zm6,zm7,zm8,zm9,zn0,zn1,zn2,zn3,zn4,zn5,zn6,zn7,reduceCtorEq,rowsOf,pureCells,AV.weak,AV.pureB,AV.pureBs,zn8,zn9,zo0,zo1,zo2,Nat.reduceBEq,zo3,zo4,zo5,zo6,zo7,zo8,zo9,zp0,zp1,zq9,zr1,zr2,zr3,and_imp,zr4,zr0,srow]
      refine ⟨fun hlt => ⟨⟨by omega, by omega⟩, fun a ha => ⟨fun he => ?_, fun he => ?_⟩⟩, fun hge => ?_⟩
      · exact absurd (by rw [he]; exact List.mem_of_getElem? ha) hm
      · refine ⟨k - 1, by omega, i + 1, by omega, ?_⟩
        rw [IntWalk.i64_in _ (by omega)]; rfl
      · simp -implicitDefEqProofs only [c_slices_Index,zp2,zp3,zp4,zp5,zp6,zp7,zp8,zp9,zq0,zq1,zl4,Nat.reduceEqDiff,↓reduceIte,zm0]
theorem scontains_con (L : Lay P T) (l : List ByteArray) (s : ByteArray) (hl : l.length ≤ 1048576) : Con P T 79 [.sl 1 .ro (l.map srow), .imm (.string s)] (.imm (.bool (decide (s ∈ l)))) := by
  obtain ⟨n, hn, _, _, hc⟩ := sindex_con L l s hl
  refine Con_of nul L.t_slices_Contains [] [] (by exact Nat.le_of_ble_eq_true rfl) ?_
  show wCode _ b_slices_Contains _ _ _ _
  simp -implicitDefEqProofs only [b_slices_Contains,za0,za1,za2,za3,za4,eff,AV.ptrOf,AV.tokOf,za5,za6,AV.weaks,AV.weak1,za7,za8,za9,zb0,zb1,zb2,zb3,zb4,zb5,zb6,zb7,zb8,zb9,zc0,zc1,zc2,zc3,zc4,zc5,zc6,zc7,zc8,zc9,zd0,zd1,zd2,zd3,zd4,zd5,zd6,zd7,zd8,zd9,ze0,ze1,ze2,ze3,ze4,ze5,ze6,ze7,ze8,ze9,zf0,zf1,zf2,zf3,zf4,zf5,zf6,zf7,zf8,zf9,zg0,zg1,zg2,zg3,zg4,zg5,zg6,zg7,zg8,zg9,zh0,zh1,zh2,zh3,zh4,zh5,zh6,zh7,zh8,zh9,zi0,zi1,zi2,zi3,zi4,zi5,zi6,wSnil,zi7,zi8,zi9,zj0,zj1,zj2,zj3,zj4,zj5,zj6,zj7,zj8,AV.flatB,AV.flatBs,zj9,zk0,zk1,zk2,zk3,zk4,zk5,zk6,act,AV.cells,AV.mk,AV.asSl,AV.asInt,AV.vslOf,wIdx,zk7,zk8,zk9,zl0,zl1,zl2,zl3,st0,env0,zl4,zl5,zl6,Nat.reduceAdd,Nat.reduceEqDiff,Nat.reduceLeDiff,↓reduceIte,AV.ofV,unV,← decide_not,zl7,zl8,zl9,zm0,zm1,zm2,zm3,zm4,zm5,zm6,zm7,zm8,zm9,zn0,zn1,zn2,zn3,zn4,zn5,zn6,zn7,reduceCtorEq,rowsOf,pureCells,AV.weak,AV.pureB,AV.pureBs,zn8,zn9,zo0,zo1,zo2,Nat.reduceBEq,zo3,zo4,zo5,zo6,zo7,zo8,zo9,zp0,zp1]
  refine wCall_imm hc rfl (AV.les2_refl _) ?_
  simp -implicitDefEqProofs only [c_slices_Contains,za0,za1,za2,za3,za4,eff,AV.ptrOf,AV.tokOf,za5,za6,AV.weaks,AV.weak1,za7,za8,za9,zb0,zb1,zb2,zb3,zb4,zb5,zb6,zb7,zb8,zb9,zc0,zc1,zc2,zc3,zc4,zc5,zc6,zc7,zc8,zc9,zd0,zd1,zd2,zd3,zd4,zd5,zd6,zd7,zd8,zd9,ze0,ze1,ze2,ze3,ze4,ze5,ze6,ze7,ze8,ze9,zf0,zf1,zf2,zf3,zf4,zf5,zf6,zf7,zf8,zf9,zg0,zg1,zg2,zg3,zg4,zg5,zg6,zg7,zg8,zg9,zh0,zh1,zh2,zh3,zh4,zh5,zh6,zh7,zh8,zh9,zi0,zi1,zi2,zi3,zi4,zi5,zi6,wSnil,zi7,zi8,zi9,zj0,zj1,zj2,zj3,zj4,zj5,zj6,zj7,zj8,AV.flatB,AV.flatBs,zj9,zk0,zk1,zk2,zk3,zk4,zk5,zk6,act,AV.cells,AV.mk,AV.asSl,AV.asInt,AV.vslOf,wIdx,zk7,zk8,zk9,zl0,zl1,zl2,zl3,st0,env0,zl4,zl5,zl6,Nat.reduceAdd,Nat.reduceEqDiff,Nat.reduceLeDiff,↓reduceIte,AV.ofV,unV,← decide_not,zl7,zl8,zl9,zm0,zm1,zm2,zm3,zm4,zm5,zm6,zm7,zm8,zm9,zn0,zn1,zn2,zn3,zn4,zn5,zn6,zn7,reduceCtorEq,rowsOf,pureCells,AV.weak,AV.pureB,AV.pureBs,zn8,zn9,zo0,zo1,zo2,Nat.reduceBEq,zo3,zo4,zo5,zo6,zo7,zo8,zo9,zp0,zp1,zp2,zp3,zp4,zp5,zp6,zp7,zp8,zp9,zq0,zq1]
  simp [hn]
theorem find1_con (L : Lay P T) (x : Item) (id : ByteArray) : Con P T 77 [.agg x.row, .eptr [.imm (.string id)] 0] (.imm (.bool (decide (x.id = id)))) := by
  refine Con_of nul L.t_code_Find_d1 [] [] (by exact Nat.le_of_ble_eq_true rfl) ?_
  show wCode _ b_code_Find_d1 _ _ _ _
  simp -implicitDefEqProofs only [b_code_Find_d1,Item.row,za0,za1,za2,za3,za4,eff,AV.ptrOf,AV.tokOf,za5,za6,AV.weaks,AV.weak1,za7,za8,za9,zb0,zb1,zb2,zb3,zb4,zb5,zb6,zb7,zb8,zb9,zc0,zc1,zc2,zc3,zc4,zc5,zc6,zc7,zc8,zc9,zd0,zd1,zd2,zd3,zd4,zd5,zd6,zd7,zd8,zd9,ze0,ze1,ze2,ze3,ze4,ze5,ze6,ze7,ze8,ze9,zf0,zf1,zf2,zf3,zf4,zf5,zf6,zf7,zf8,zf9,zg0,zg1,zg2,zg3,zg4,zg5,zg6,zg7,zg8,zg9,zh0,zh1,zh2,zh3,zh4,zh5,zh6,zh7,zh8,zh9,zi0,zi1,zi2,zi3,zi4,zi5,zi6,wSnil,zi7,zi8,zi9,zj0,zj1,zj2,zj3,zj4,zj5,zj6,zj7,zj8,AV.flatB,AV.flatBs,zj9,zk0,zk1,zk2,zk3,zk4,zk5,zk6,act,AV.cells,AV.mk,AV.asSl,AV.asInt,AV.vslOf,wIdx,zk7,zk8,zk9,zl0,zl1,zl2,zl3,st0,env0,zl4,zl5,zl6,Nat.reduceAdd,Nat.reduceEqDiff,Nat.reduceLeDiff,↓reduceIte,AV.ofV,unV,← decide_not,zl7,zl8,zl9,zm0,zm1,zm2,zm3,zm4,zm5,zm6,zm7,zm8,zm9,zn0,zn1,zn2,zn3,zn4,zn5,zn6,zn7,reduceCtorEq,rowsOf,pureCells,AV.weak,AV.pureB,AV.pureBs,zn8,zn9,zo0,zo1,zo2,Nat.reduceBEq,zo3,zo4,zo5,zo6,zo7,zo8,zo9,zp0,zp1]
  simp -implicitDefEqProofs only [c_code_Find_d1,zp2,zp3,zp4,zp5,zp6,zp7,zp8,zp9,zq0,zq1,zl4,Nat.reduceEqDiff,↓reduceIte,zm0]
end Go.Av

namespace Go.Av
variable {P : Program} {T : List Nat}
theorem ifind_con (L : Lay P T) (l : List Item) (id : ByteArray) (hl : l.length ≤ 1048576) : Con P T 76 [.sl 7 .ro (l.map Item.row), .fv (T.getD 77 0) [] [.eptr [.imm (.string id)] 0]] (.imm (.int .i64 (findS id l))) := by
  refine Con_of nul L.t_slices_IndexFunc [] [] (by exact Nat.le_of_ble_eq_true rfl) ?_
  show wCode _ b_slices_IndexFunc _ _ _ _
  simp -implicitDefEqProofs only [b_slices_IndexFunc,za0,za1,za2,za3,za4,eff,AV.ptrOf,AV.tokOf,za5,za6,AV.weaks,AV.weak1,za7,za8,za9,zb0,zb1,zb2,zb3,zb4,zb5,zb6,zb7,zb8,zb9,zc0,zc1,zc2,zc3,zc4,zc5,zc6,zc7,zc8,zc9,zd0,zd1,zd2,zd3,zd4,zd5,zd6,zd7,zd8,zd9,ze0,ze1,ze2,ze3,ze4,ze5,ze6,ze7,ze8,ze9,zf0,zf1,zf2,zf3,zf4,zf5,zf6,zf7,zf8,zf9,zg0,zg1,zg2,zg3,zg4,zg5,zg6,zg7,zg8,zg9,zh0,zh1,zh2,zh3,zh4,zh5,zh6,zh7,zh8,zh9,zi0,zi1,zi2,zi3,zi4,zi5,zi6,wSnil,zi7,zi8,zi9,zj0,zj1,zj2,zj3,zj4,zj5,zj6,zj7,zj8,AV.flatB,AV.flatBs,zj9,zk0,zk1,zk2,zk3,zk4,zk5,zk6,act,AV.cells,AV.mk,AV.asSl,AV.asInt,AV.vslOf,wIdx,zk7,zk8,zk9,zl0,zl1,zl2,zl3,st0,env0,zl4,zl5,zl6,Nat.reduceAdd,Nat.reduceEqDiff,Nat.reduceLeDiff,↓reduceIte,AV.ofV,unV,← decide_not,zl7,zl8,zl9,zm0,zm1,zm2,zm3,zm4,zm5,zm6,zm7,zm8,zm9,zn0,zn1,zn2,zn3,zn4,zn5,zn6,zn7,reduceCtorEq,rowsOf,pureCells,AV.weak,AV.pureB,AV.pureBs,zn8,zn9,zo0,zo1,zo2,Nat.reduceBEq,zo3,zo4,zo5,zo6,zo7,zo8,zo9,zp0,zp1,zq9]
  refine AW.loop (fun k s => s.env 0 = .sl 7 .ro (l.map Item.row) ∧ s.env 1 = .fv (T.getD 77 0) [] [.eptr [.imm (.string id)] 0] ∧ s.env 7 = .imm (.int .i64 l.length) ∧ ∃ i : Nat, i + k = l.length ∧ s.env 8 = .imm (.int .i64 i) ∧ ∀ j (h : j < l.length), j < i → l[j].id ≠ id) l.length ?_ ?_
  · exact ⟨rfl, rfl, rfl, 0, by simp, rfl, by simp⟩
  · rintro k ⟨e, g, v, tg, tp, x⟩ ⟨h0, h1, h7, i, hi, h8, hn⟩
    simp only at h0 h1 h7 h8
    simp -implicitDefEqProofs only [l_slices_IndexFunc_0,h0,h1,h7,h8,za0,za1,za2,za3,za4,eff,AV.ptrOf,AV.tokOf,za5,za6,AV.weaks,AV.weak1,za7,za8,za9,zb0,zb1,zb2,zb3,zb4,zb5,zb6,zb7,zb8,zb9,zc0,zc1,zc2,zc3,zc4,zc5,zc6,zc7,zc8,zc9,zd0,zd1,zd2,zd3,zd4,zd5,zd6,zd7,zd8,zd9,ze0,ze1,ze2,ze3,ze4,ze5,ze6,ze7,ze8,ze9,zf0,zf1,zf2,zf3,zf4,zf5,zf6,zf7,zf8,zf9,zg0,zg1,zg2,zg3,zg4,zg5,zg6,zg7,zg8,zg9,zh0,zh1,zh2,zh3,zh4,zh5,zh6,zh7,zh8,zh9,zi0,zi1,zi2,zi3,zi4,zi5,zi6,wSnil,zi7,zi8,zi9,zj0,zj1,zj2,zj3,zj4,zj5,zj6,zj7,zj8,AV.flatB,AV.flatBs,zj9,zk0,zk1,zk2,zk3,zk4,zk5,zk6,act,AV.cells,AV.mk,AV.asSl,AV.asInt,AV.vslOf,wIdx,zk7,zk8,zk9,zl0,zl1,zl2,zl3,st0,env0,zl4,zl5,zl6,Nat.reduceAdd,Nat.reduceEqDiff,Nat.reduceLeDiff,↓reduceIte,AV.ofV,unV,← decide_not,zl7,zl8,zl9,zm0,zm1,zm2,zm3,zm4,zm5,zm6,zm7,zm8,zm9,zn0,zn1,zn2,zn3,zn4,zn5,zn6,zn7,reduceCtorEq,rowsOf,pureCells,AV.weak,AV.pureB,AV.pureBs,zn8,zn9,zo0,zo1,zo2,Nat.reduceBEq,zo3,zo4,zo5,zo6,zo7,zo8,zo9,zp0,zp1,zq9,zr1,zr2,zr3,and_imp,zr4,zr0]
    refine ⟨fun hlt => ⟨⟨by omega, hlt⟩, fun a ha => ?_⟩, fun hge => ?_⟩
    · refine ⟨Nat.le_refl _, wCallV_imm (ys := [.agg a.row, .eptr [.imm (.string id)] 0]) (CV_of L.t_code_Find_d1 (by have := L.len; omega) (find1_con L a id)) rfl ?_ ?_⟩
      · exact AV.les2_refl _
      simp -implicitDefEqProofs only [h0,h1,h7,h8,za0,za1,za2,za3,za4,eff,AV.ptrOf,AV.tokOf,za5,za6,AV.weaks,AV.weak1,za7,za8,za9,zb0,zb1,zb2,zb3,zb4,zb5,zb6,zb7,zb8,zb9,zc0,zc1,zc2,zc3,zc4,zc5,zc6,zc7,zc8,zc9,zd0,zd1,zd2,zd3,zd4,zd5,zd6,zd7,zd8,zd9,ze0,ze1,ze2,ze3,ze4,ze5,ze6,ze7,ze8,ze9,zf0,zf1,zf2,zf3,zf4,zf5,zf6,zf7,zf8,zf9,zg0,zg1,zg2,zg3,zg4,zg5,zg6,zg7,zg8,zg9,zh0,zh1,zh2,zh3,zh4,zh5,zh6,zh7,zh8,zh9,zi0,zi1,zi2,zi3,zi4,zi5,zi6,wSnil,zi7,zi8,zi9,zj0,zj1,zj2,zj3,zj4,zj5,zj6,zj7,zj8,AV.flatB,AV.flatBs,zj9,zk0,zk1,zk2,zk3,zk4,zk5,zk6,act,AV.cells,AV.mk,AV.asSl,AV.asInt,AV.vslOf,wIdx,zk7,zk8,zk9,zl0,zl1,zl2,zl3,st0,env0,zl4,zl5,zl6,Nat.reduceAdd,Nat.reduceEqDiff,Nat.reduceLeDiff,↓reduceIte,AV.ofV,unV,← decide_not,zl7,zl8,zl9,zm0,zm1,zm2,zm3,zm4,zm5,zm6,zm7,zm8,zm9,zn0,zn1,zn2,zn3,zn4,zn5,zn6,zn7,reduceCtorEq,rowsOf,pureCells,AV.weak,AV.pureB,AV.pureBs,zn8,zn9,zo0,zo1,zo2,Nat.reduceBEq,zo3,zo4,zo5,zo6,zo7,zo8,zo9,zp0,zp1]
      refine ⟨fun he => ?_, fun he => ?_⟩
      · simp -implicitDefEqProofs only [c_slices_IndexFunc,za0,za1,za2,za3,za4,eff,AV.ptrOf,AV.tokOf,za5,za6,AV.weaks,AV.weak1,za7,za8,za9,zb0,zb1,zb2,zb3,zb4,zb5,zb6,zb7,zb8,zb9,zc0,zc1,zc2,zc3,zc4,zc5,zc6,zc7,zc8,zc9,zd0,zd1,zd2,zd3,zd4,zd5,zd6,zd7,zd8,zd9,ze0,ze1,ze2,ze3,ze4,ze5,ze6,ze7,ze8,ze9,zf0,zf1,zf2,zf3,zf4,zf5,zf6,zf7,zf8,zf9,zg0,zg1,zg2,zg3,zg4,zg5,zg6,zg7,zg8,zg9,zh0,zh1,zh2,zh3,zh4,zh5,zh6,zh7,zh8,zh9,zi0,zi1,zi2,zi3,zi4,zi5,zi6,wSnil,zi7,zi8,zi9,zj0,zj1,zj2,zj3,zj4,zj5,zj6,zj7,zj8,AV.flatB,AV.flatBs,zj9,zk0,zk1,zk2,zk3,zk4,zk5,zk6,act,AV.cells,AV.mk,AV.asSl,AV.asInt,AV.vslOf,wIdx,zk7,zk8,zk9,zl0,zl1,zl2,zl3,st0,env0,zl4,zl5,zl6,Nat.reduceAdd,Nat.reduceEqDiff,Nat.reduceLeDiff,↓reduceIte,AV.ofV,unV,← decide_not,zl7,zl8,zl9,zm0,zm1,zm2,zm3,zm4,zm5,zm6,zm7,zm8,zm9,zn0,zn1,zn2,zn3,zn4,zn5,zn6,zn7,reduceCtorEq,rowsOf,pureCells,AV.weak,AV.pureB,AV.pureBs,zn8,zn9,zo0,zo1,zo2,Nat.reduceBEq,zo3,zo4,zo5,zo6,zo7,zo8,zo9,zp0,zp1,zp2,zp3,zp4,zp5,zp6,zp7,zp8,zp9,zq0,zq1]
        exact findS_eq l id i a ha he hn
      · refine ⟨k - 1, by omega, i + 1, by omega, ?_, fun j hj hji => ?_⟩
        · rw [IntWalk.i64_in _ (by omega)]; rfl
        · rcases Nat.lt_succ_iff_lt_or_eq.1 hji with h | rfl
          · exact hn j hj h
          · rw [List.getElem?_eq_getElem hj] at ha
            injection ha with ha
            rw [ha]
            exact he
    · simp -implicitDefEqProofs only [c_slices_IndexFunc,za0,za1,za2,za3,za4,eff,AV.ptrOf,AV.tokOf,za5,za6,AV.weaks,AV.weak1,za7,za8,za9,zb0,zb1,zb2,zb3,zb4,zb5,zb6,zb7,zb8,zb9,zc0,zc1,zc2,zc3,zc4,zc5,zc6,zc7,zc8,zc9,zd0,zd1,zd2,zd3,zd4,zd5,zd6,zd7,zd8,zd9,ze0,ze1,ze2,ze3,ze4,ze5,ze6,ze7,ze8,ze9,zf0,zf1,zf2,zf3,zf4,zf5,zf6,zf7,zf8,zf9,zg0,zg1,zg2,zg3,zg4,zg5,zg6,zg7,zg8,zg9,zh0,zh1,zh2,zh3,zh4,zh5,zh6,zh7,zh8,zh9,zi0,zi1,zi2,zi3,zi4,zi5,zi6,wSnil,zi7,zi8,zi9,zj0,zj1,zj2,zj3,zj4,zj5,zj6,zj7,zj8,AV.flatB,AV.flatBs,zj9,zk0,zk1,zk2,zk3,zk4,zk5,zk6,act,AV.cells,AV.mk,AV.asSl,AV.asInt,AV.vslOf,wIdx,zk7,zk8,zk9,zl0,zl1,zl2,zl3,st0,env0,zl4,zl5,zl6,Nat.reduceAdd,Nat.reduceEqDiff,Nat.reduceLeDiff,↓reduceIte,AV.ofV,unV,← decide_not,zl7,zl8,zl9,zm0,zm1,zm2,zm3,zm4,zm5,zm6,zm7,zm8,zm9,zn0,zn1,zn2,zn3,zn4,zn5,zn6,zn7,reduceCtorEq,rowsOf,pureCells,AV.weak,AV.pureB,AV.pureBs,zn8,zn9,zo0,zo1,zo2,Nat.reduceBEq,zo3,zo4,zo5,zo6,zo7,zo8,zo9,zp0,zp1,zp2,zp3,zp4,zp5,zp6,zp7,zp8,zp9,zq0,zq1]
      rw [findS_none l id fun j h => hn j h (by omega)]
/-- code.Find. -/
theorem cfind_con (L : Lay P T) (l : List Item) (id : ByteArray) (hl : l.length ≤ 1048576) : Con P T 48 [.agg [.sl 7 .ro (l.map Item.row)], .imm (.string id)] (.imm (.int .i64 (findS id l))) := by
  refine Con_of nul L.t_code_Find [] [] (by exact Nat.le_of_ble_eq_true rfl) ?_
  change wCode _ (b_code_Find (T.getD · 0)) _ _ _ _
  simp -implicitDefEqProofs only [b_code_Find,za0,za1,za2,za3,za4,eff,AV.ptrOf,AV.tokOf,za5,za6,AV.weaks,AV.weak1,za7,za8,za9,zb0,zb1,zb2,zb3,zb4,zb5,zb6,zb7,zb8,zb9,zc0,zc1,zc2,zc3,zc4,zc5,zc6,zc7,zc8,zc9,zd0,zd1,zd2,zd3,zd4,zd5,zd6,zd7,zd8,zd9,ze0,ze1,ze2,ze3,ze4,ze5,ze6,ze7,ze8,ze9,zf0,zf1,zf2,zf3,zf4,zf5,zf6,zf7,zf8,zf9,zg0,zg1,zg2,zg3,zg4,zg5,zg6,zg7,zg8,zg9,zh0,zh1,zh2,zh3,zh4,zh5,zh6,zh7,zh8,zh9,zi0,zi1,zi2,zi3,zi4,zi5,zi6,wSnil,zi7,zi8,zi9,zj0,zj1,zj2,zj3,zj4,zj5,zj6,zj7,zj8,AV.flatB,AV.flatBs,zj9,zk0,zk1,zk2,zk3,zk4,zk5,zk6,act,AV.cells,AV.mk,AV.asSl,AV.asInt,AV.vslOf,wIdx,zk7,zk8,zk9,zl0,zl1,zl2,zl3,st0,env0,zl4,zl5,zl6,Nat.reduceAdd,Nat.reduceEqDiff,Nat.reduceLeDiff,↓reduceIte,AV.ofV,unV,← decide_not,zl7,zl8,zl9,zm0,zm1,zm2,zm3,zm4,zm5,zm6,zm7,zm8,zm9,zn0,zn1,zn2,zn3,zn4,zn5,zn6,zn7,reduceCtorEq,rowsOf,pureCells,AV.weak,AV.pureB,AV.pureBs,zn8,zn9,zo0,zo1,zo2,Nat.reduceBEq,zo3,zo4,zo5,zo6,zo7,zo8,zo9,zp0,zp1]
  refine wCall_V (zs := [.sl 7 .ro (l.map Item.row), .fv (T.getD 77 0) [] [.eptr [.imm (.string id)] 0]]) (ifind_con L l id hl) ?_ ?_ (AV.les2_refl _) rfl ?_
  · simp [AV.weaks, AV.weak1, AV.weak, AV.pureBs, AV.pureB]
  · exact .cons (View.same rfl rfl) (.cons (.fv .nil (.cons (.ptr (by simp [upd]) (by simp only [zl4,zo3]; exact Views.imms [.string id])) .nil)) .nil)
  simp -implicitDefEqProofs only [c_code_Find,za0,za1,za2,za3,za4,eff,AV.ptrOf,AV.tokOf,za5,za6,AV.weaks,AV.weak1,za7,za8,za9,zb0,zb1,zb2,zb3,zb4,zb5,zb6,zb7,zb8,zb9,zc0,zc1,zc2,zc3,zc4,zc5,zc6,zc7,zc8,zc9,zd0,zd1,zd2,zd3,zd4,zd5,zd6,zd7,zd8,zd9,ze0,ze1,ze2,ze3,ze4,ze5,ze6,ze7,ze8,ze9,zf0,zf1,zf2,zf3,zf4,zf5,zf6,zf7,zf8,zf9,zg0,zg1,zg2,zg3,zg4,zg5,zg6,zg7,zg8,zg9,zh0,zh1,zh2,zh3,zh4,zh5,zh6,zh7,zh8,zh9,zi0,zi1,zi2,zi3,zi4,zi5,zi6,wSnil,zi7,zi8,zi9,zj0,zj1,zj2,zj3,zj4,zj5,zj6,zj7,zj8,AV.flatB,AV.flatBs,zj9,zk0,zk1,zk2,zk3,zk4,zk5,zk6,act,AV.cells,AV.mk,AV.asSl,AV.asInt,AV.vslOf,wIdx,zk7,zk8,zk9,zl0,zl1,zl2,zl3,st0,env0,zl4,zl5,zl6,Nat.reduceAdd,Nat.reduceEqDiff,Nat.reduceLeDiff,↓reduceIte,AV.ofV,unV,← decide_not,zl7,zl8,zl9,zm0,zm1,zm2,zm3,zm4,zm5,zm6,zm7,zm8,zm9,zn0,zn1,zn2,zn3,zn4,zn5,zn6,zn7,reduceCtorEq,rowsOf,pureCells,AV.weak,AV.pureB,AV.pureBs,zn8,zn9,zo0,zo1,zo2,Nat.reduceBEq,zo3,zo4,zo5,zo6,zo7,zo8,zo9,zp0,zp1,zp2,zp3,zp4,zp5,zp6,zp7,zp8,zp9,zq0,zq1]
end Go.Av

namespace Go.Av
variable {P : Program} {T : List Nat} {σ : Type}
theorem wAct_thaw' {S : Sys σ} {d : Nat} {st : St σ} {K : AV → St σ → Prop} {sz by' : Nat} {y z : Operand} (h : S.th.contains d = true) : wAct S true d st (.app sz by' y z) K = wThaw d st sz by' (st.ev y) (st.ev z) K := by
  simp only [wAct,h,zo8,zo3]
/-- slices.Clone of items: a variable of the call's own. -/
theorem clone_I (L : Lay P T) {O : Outs σ} {nt k0 : Nat} {th : List Nat} {fz : List (Nat × Nat × Nat)} (k : Nat) {st : St σ} {tok : Tok} (l : List Item) (hl : l.length ≤ 1048576) (h0 : 0 < l.length) :
    (sys O P T nt k0 th fz).I 80 [.sl 7 tok (l.map Item.row)] st (fun x s => x = .vsl (k + 7) (st.gen (k + 7) + 1) 7 0 l.length none ∧ s = st.newVar (k + 7) (l.map Item.row).flatten) := by
  refine I_of L.t_slices_Clone k [k + 7] [] (by exact Nat.le_of_ble_eq_true rfl) ?_
  show wCode _ b_slices_Clone _ _ _ _
  obtain ⟨e0, g0, v0, tg0, tp0, x0⟩ := st
  have hne : l.map Item.row ≠ [] := by
    intro h
    have := congrArg List.length h
    simp at this
    subst this
    simp at h0
  simp -implicitDefEqProofs only [b_slices_Clone,za0,za1,za2,za3,za4,eff,AV.ptrOf,AV.tokOf,za5,za6,AV.weaks,AV.weak1,za7,za8,za9,zb0,zb1,zb2,zb3,zb4,zb5,zb6,zb7,zb8,zb9,zc0,zc1,zc2,zc3,zc4,zc5,zc6,zc7,zc8,zc9,zd0,zd1,zd2,zd3,zd4,zd5,zd6,zd7,zd8,zd9,ze0,ze1,ze2,ze3,ze4,ze5,ze6,ze7,ze8,ze9,zf0,zf1,zf2,zf3,zf4,zf5,zf6,zf7,zf8,zf9,zg0,zg1,zg2,zg3,zg4,zg5,zg6,zg7,zg8,zg9,zh0,zh1,zh2,zh3,zh4,zh5,zh6,zh7,zh8,zh9,zi0,zi1,zi2,zi3,zi4,zi5,zi6,wSnil,zi7,zi8,zi9,zj0,zj1,zj2,zj3,zj4,zj5,zj6,zj7,zj8,AV.flatB,AV.flatBs,zj9,zk0,zk1,zk2,zk3,zk4,zk5,zk6,act,AV.cells,AV.mk,AV.asSl,AV.asInt,AV.vslOf,wIdx,zk7,zk8,zk9,zl0,zl1,zl2,zl3,st0,env0,zl4,zl5,zl6,Nat.reduceAdd,Nat.reduceEqDiff,Nat.reduceLeDiff,↓reduceIte,AV.ofV,unV,← decide_not,zl7,zl8,zl9,zm0,zm1,zm2,zm3,zm4,zm5,zm6,zm7,zm8,zm9,zn0,zn1,zn2,zn3,zn4,zn5,zn6,zn7,reduceCtorEq,rowsOf,pureCells,AV.weak,AV.pureB,AV.pureBs,zn8,zn9,zo0,zo1,zo2,Nat.reduceBEq,zo3,zo4,zo5,zo6,zo7,zo8,zo9,zp0,zp1]
  refine ⟨fun _ => ?_, fun h => absurd h hne⟩
  rw [wAct_thaw' (by show [k + 7].contains (k + 7) = true; simp)]
  simp -implicitDefEqProofs only [wThaw,c_slices_Clone,za0,za1,za2,za3,za4,eff,AV.ptrOf,AV.tokOf,za5,za6,AV.weaks,AV.weak1,za7,za8,za9,zb0,zb1,zb2,zb3,zb4,zb5,zb6,zb7,zb8,zb9,zc0,zc1,zc2,zc3,zc4,zc5,zc6,zc7,zc8,zc9,zd0,zd1,zd2,zd3,zd4,zd5,zd6,zd7,zd8,zd9,ze0,ze1,ze2,ze3,ze4,ze5,ze6,ze7,ze8,ze9,zf0,zf1,zf2,zf3,zf4,zf5,zf6,zf7,zf8,zf9,zg0,zg1,zg2,zg3,zg4,zg5,zg6,zg7,zg8,zg9,zh0,zh1,zh2,zh3,zh4,zh5,zh6,zh7,zh8,zh9,zi0,zi1,zi2,zi3,zi4,zi5,zi6,wSnil,zi7,zi8,zi9,zj0,zj1,zj2,zj3,zj4,zj5,zj6,zj7,zj8,AV.flatB,AV.flatBs,zj9,zk0,zk1,zk2,zk3,zk4,zk5,zk6,act,AV.cells,AV.mk,AV.asSl,AV.asInt,AV.vslOf,wIdx,zk7,zk8,zk9,zl0,zl1,zl2,zl3,st0,env0,zl4,zl5,zl6,Nat.reduceAdd,Nat.reduceEqDiff,Nat.reduceLeDiff,↓reduceIte,AV.ofV,unV,← decide_not,zl7,zl8,zl9,zm0,zm1,zm2,zm3,zm4,zm5,zm6,zm7,zm8,zm9,zn0,zn1,zn2,zn3,zn4,zn5,zn6,zn7,reduceCtorEq,rowsOf,pureCells,AV.weak,AV.pureB,AV.pureBs,zn8,zn9,zo0,zo1,zo2,Nat.reduceBEq,zo3,zo4,zo5,zo6,zo7,zo8,zo9,zp0,zp1,zp2,zp3,zp4,zp5,zp6,zp7,zp8,zp9,zq0,zq1,zq9]
  exact ⟨⟨h0, by omega⟩, rfl⟩
end Go.Av

namespace Go.Av
variable {P : Program} {T : List Nat} {σ : Type}
structure PatchS where
  kind : Int
  id : ByteArray
  parent : ByteArray
  after : ByteArray
  number : ByteArray
  item : Item
  lang : Int
  old : ByteArray
  new : ByteArray
  deriving DecidableEq
def PatchS.row (p : PatchS) : List AV := [.imm (.int .i64 p.kind), .imm (.string p.id), .imm (.string p.parent), .imm (.string p.after), .imm (.string p.number)] ++ p.item.row ++ [.imm (.int .i64 p.lang), .imm (.string p.old), .imm (.string p.new)]
/-- The program's change: the code, the patch, where its Id stands. -/
def chg (l : List Item) (p : PatchS) (i : Int) : AV := .agg (.sl 7 .ro (l.map Item.row) :: p.row ++ [.imm (.int .i64 i)])
def noItem : Item := ⟨0, nilS, nilS, nilS, nilS, nilS, false⟩
def itemAt (l : List Item) (id : ByteArray) : Item := (l.find? fun x => decide (x.id = id)).getD noItem
theorem findS_find : ∀ (l : List Item) (id : ByteArray) (n : Nat), findS id l = n → ∃ a, l[n]? = some a ∧ itemAt l id = a
  | [], id, n, h => by simp [findS] at h
  | x :: l, id, n, h => by
    by_cases hx : x.id = id
    · simp [findS, hx] at h
      have : n = 0 := by omega
      subst this
      exact ⟨x, rfl, by simp [itemAt, hx]⟩
    · simp only [findS,hx,zo4] at h
      split at h
      · omega
      · obtain ⟨a, ha, hb⟩ := findS_find l id (n - 1) (by omega)
        refine ⟨a, ?_, ?_⟩
        · have : n = (n - 1) + 1 := by omega
          rw [this]
          exact ha
        · simpa [itemAt, hx] using hb
theorem findS_neg {l : List Item} {id : ByteArray} (h : findS id l < 0) : itemAt l id = noItem := by
  have : l.find? (fun x => decide (x.id = id)) = none := by
    induction l with
    | nil => rfl
    | cons x l ih =>
      by_cases hx : x.id = id
      · simp [findS, hx] at h
      · simp only [findS,hx,zo4] at h
        have hl : findS id l < 0 := by
          split at h <;> omega
        simp [hx, ih hl]
  simp [itemAt, this]
theorem item_con (L : Lay P T) (l : List Item) (p : PatchS) (i : Int) (id : ByteArray) (hl : l.length ≤ 1048576) : Con P T 73 [chg l p i, .imm (.string id)] (.agg (itemAt l id).row) := by
  refine Con_of nul L.t_patch_change_item [] [] (by exact Nat.le_of_ble_eq_true rfl) ?_
  show wCode _ b_patch_change_item _ _ _ _
  simp -implicitDefEqProofs only [b_patch_change_item,chg,PatchS.row,Item.row,za0,za1,za2,za3,za4,eff,AV.ptrOf,AV.tokOf,za5,za6,AV.weaks,AV.weak1,za7,za8,za9,zb0,zb1,zb2,zb3,zb4,zb5,zb6,zb7,zb8,zb9,zc0,zc1,zc2,zc3,zc4,zc5,zc6,zc7,zc8,zc9,zd0,zd1,zd2,zd3,zd4,zd5,zd6,zd7,zd8,zd9,ze0,ze1,ze2,ze3,ze4,ze5,ze6,ze7,ze8,ze9,zf0,zf1,zf2,zf3,zf4,zf5,zf6,zf7,zf8,zf9,zg0,zg1,zg2,zg3,zg4,zg5,zg6,zg7,zg8,zg9,zh0,zh1,zh2,zh3,zh4,zh5,zh6,zh7,zh8,zh9,zi0,zi1,zi2,zi3,zi4,zi5,zi6,wSnil,zi7,zi8,zi9,zj0,zj1,zj2,zj3,zj4,zj5,zj6,zj7,zj8,AV.flatB,AV.flatBs,zj9,zk0,zk1,zk2,zk3,zk4,zk5,zk6,act,AV.cells,AV.mk,AV.asSl,AV.asInt,AV.vslOf,wIdx,zk7,zk8,zk9,zl0,zl1,zl2,zl3,st0,env0,zl4,zl5,zl6,Nat.reduceAdd,Nat.reduceEqDiff,Nat.reduceLeDiff,↓reduceIte,AV.ofV,unV,← decide_not,zl7,zl8,zl9,zm0,zm1,zm2,zm3,zm4,zm5,zm6,zm7,zm8,zm9,zn0,zn1,zn2,zn3,zn4,zn5,zn6,zn7,reduceCtorEq,rowsOf,pureCells,AV.weak,AV.pureB,AV.pureBs,zn8,zn9,zo0,zo1,zo2,Nat.reduceBEq,zo3,zo4,zo5,zo6,zo7,zo8,zo9,zp0,zp1]
  refine wCall_imm (cfind_con L l id hl) rfl (AV.les2_refl _) ?_
  simp -implicitDefEqProofs only [za0,za1,za2,za3,za4,eff,AV.ptrOf,AV.tokOf,za5,za6,AV.weaks,AV.weak1,za7,za8,za9,zb0,zb1,zb2,zb3,zb4,zb5,zb6,zb7,zb8,zb9,zc0,zc1,zc2,zc3,zc4,zc5,zc6,zc7,zc8,zc9,zd0,zd1,zd2,zd3,zd4,zd5,zd6,zd7,zd8,zd9,ze0,ze1,ze2,ze3,ze4,ze5,ze6,ze7,ze8,ze9,zf0,zf1,zf2,zf3,zf4,zf5,zf6,zf7,zf8,zf9,zg0,zg1,zg2,zg3,zg4,zg5,zg6,zg7,zg8,zg9,zh0,zh1,zh2,zh3,zh4,zh5,zh6,zh7,zh8,zh9,zi0,zi1,zi2,zi3,zi4,zi5,zi6,wSnil,zi7,zi8,zi9,zj0,zj1,zj2,zj3,zj4,zj5,zj6,zj7,zj8,AV.flatB,AV.flatBs,zj9,zk0,zk1,zk2,zk3,zk4,zk5,zk6,act,AV.cells,AV.mk,AV.asSl,AV.asInt,AV.vslOf,wIdx,zk7,zk8,zk9,zl0,zl1,zl2,zl3,st0,env0,zl4,zl5,zl6,Nat.reduceAdd,Nat.reduceEqDiff,Nat.reduceLeDiff,↓reduceIte,AV.ofV,unV,← decide_not,zl7,zl8,zl9,zm0,zm1,zm2,zm3,zm4,zm5,zm6,zm7,zm8,zm9,zn0,zn1,zn2,zn3,zn4,zn5,zn6,zn7,reduceCtorEq,rowsOf,pureCells,AV.weak,AV.pureB,AV.pureBs,zn8,zn9,zo0,zo1,zo2,Nat.reduceBEq,zo3,zo4,zo5,zo6,zo7,zo8,zo9,zp0,zp1,zq9,zr1,zr2,zr3,and_imp,zr4]
  refine ⟨fun hp => ?_, fun hn => ?_⟩
  · obtain ⟨n, hn⟩ : ∃ n : Nat, findS id l = n := ⟨(findS id l).toNat, by omega⟩
    obtain ⟨a, ha, hia⟩ := findS_find l id n hn
    have hlt := (List.getElem?_eq_some_iff.1 ha).1
    refine ⟨⟨hp, by omega⟩, fun a' ha' => ?_⟩
    rw [hn, Int.toNat_natCast, ha] at ha'
    injection ha' with ha'
    subst ha'
    simp -implicitDefEqProofs only [c_patch_change_item,hia,za0,za1,za2,za3,za4,eff,AV.ptrOf,AV.tokOf,za5,za6,AV.weaks,AV.weak1,za7,za8,za9,zb0,zb1,zb2,zb3,zb4,zb5,zb6,zb7,zb8,zb9,zc0,zc1,zc2,zc3,zc4,zc5,zc6,zc7,zc8,zc9,zd0,zd1,zd2,zd3,zd4,zd5,zd6,zd7,zd8,zd9,ze0,ze1,ze2,ze3,ze4,ze5,ze6,ze7,ze8,ze9,zf0,zf1,zf2,zf3,zf4,zf5,zf6,zf7,zf8,zf9,zg0,zg1,zg2,zg3,zg4,zg5,zg6,zg7,zg8,zg9,zh0,zh1,zh2,zh3,zh4,zh5,zh6,zh7,zh8,zh9,zi0,zi1,zi2,zi3,zi4,zi5,zi6,wSnil,zi7,zi8,zi9,zj0,zj1,zj2,zj3,zj4,zj5,zj6,zj7,zj8,AV.flatB,AV.flatBs,zj9,zk0,zk1,zk2,zk3,zk4,zk5,zk6,act,AV.cells,AV.mk,AV.asSl,AV.asInt,AV.vslOf,wIdx,zk7,zk8,zk9,zl0,zl1,zl2,zl3,st0,env0,zl4,zl5,zl6,Nat.reduceAdd,Nat.reduceEqDiff,Nat.reduceLeDiff,↓reduceIte,AV.ofV,unV,← decide_not,zl7,zl8,zl9,zm0,zm1,zm2,zm3,zm4,zm5,zm6,zm7,zm8,zm9,zn0,zn1,zn2,zn3,zn4,zn5,zn6,zn7,reduceCtorEq,rowsOf,pureCells,AV.weak,AV.pureB,AV.pureBs,zn8,zn9,zo0,zo1,zo2,Nat.reduceBEq,zo3,zo4,zo5,zo6,zo7,zo8,zo9,zp0,zp1]
    refine ⟨Nat.le_refl _, rfl, ?_⟩
    simp -implicitDefEqProofs only [zp5,zp2,zp3,zp4,zp6,zp7,zp8,zp9,zq0,zq1,zl4,Nat.reduceEqDiff,↓reduceIte,zm0]
    refine ⟨⟨trivial, Nat.le_refl _, Nat.le_refl _⟩, ?_⟩
    exact endR_pure (σ := Unit) (st := st0 () []) (a := .agg a.row) rfl rfl
  · have hneg : findS id l < 0 := by omega
    rw [findS_neg hneg]
    simp -implicitDefEqProofs only [c_patch_change_item,fills,za0,za1,za2,za3,za4,eff,AV.ptrOf,AV.tokOf,za5,za6,AV.weaks,AV.weak1,za7,za8,za9,zb0,zb1,zb2,zb3,zb4,zb5,zb6,zb7,zb8,zb9,zc0,zc1,zc2,zc3,zc4,zc5,zc6,zc7,zc8,zc9,zd0,zd1,zd2,zd3,zd4,zd5,zd6,zd7,zd8,zd9,ze0,ze1,ze2,ze3,ze4,ze5,ze6,ze7,ze8,ze9,zf0,zf1,zf2,zf3,zf4,zf5,zf6,zf7,zf8,zf9,zg0,zg1,zg2,zg3,zg4,zg5,zg6,zg7,zg8,zg9,zh0,zh1,zh2,zh3,zh4,zh5,zh6,zh7,zh8,zh9,zi0,zi1,zi2,zi3,zi4,zi5,zi6,wSnil,zi7,zi8,zi9,zj0,zj1,zj2,zj3,zj4,zj5,zj6,zj7,zj8,AV.flatB,AV.flatBs,zj9,zk0,zk1,zk2,zk3,zk4,zk5,zk6,act,AV.cells,AV.mk,AV.asSl,AV.asInt,AV.vslOf,wIdx,zk7,zk8,zk9,zl0,zl1,zl2,zl3,st0,env0,zl4,zl5,zl6,Nat.reduceAdd,Nat.reduceEqDiff,Nat.reduceLeDiff,↓reduceIte,AV.ofV,unV,← decide_not,zl7,zl8,zl9,zm0,zm1,zm2,zm3,zm4,zm5,zm6,zm7,zm8,zm9,zn0,zn1,zn2,zn3,zn4,zn5,zn6,zn7,reduceCtorEq,rowsOf,pureCells,AV.weak,AV.pureB,AV.pureBs,zn8,zn9,zo0,zo1,zo2,Nat.reduceBEq,zo3,zo4,zo5,zo6,zo7,zo8,zo9,zp0,zp1]
    simp -implicitDefEqProofs only [zp5,zp2,zp3,zp4,zp6,zp7,zp8,zp9,zq0,zq1,zl4,Nat.reduceEqDiff,↓reduceIte,zm0]
    exact ⟨⟨trivial, Nat.le_refl _, Nat.le_refl _⟩, endR_pure (σ := Unit) (st := st0 () []) (a := .agg noItem.row) rfl rfl⟩
end Go.Av

namespace Go.Av
variable {P : Program} {T : List Nat} {σ : Type}
theorem flat_at {α : Type} {sz : Nat} : ∀ {rows : List (List α)} (h : ∀ r ∈ rows, r.length = sz) (i : Nat) (r : List α), rows[i]? = some r → (rows.flatten.drop (i * sz)).take sz = r
  | [], _, i, r, hi => by simp at hi
  | a :: rows, h, 0, r, hi => by
    simp at hi
    subst hi
    have := h a (.head _)
    simp [← this]
  | a :: rows, h, i + 1, r, hi => by
    have ha := h a (.head _)
    have := flat_at (fun x hx => h x (.tail _ hx)) i r (by simpa using hi)
    rw [List.flatten_cons, show (i + 1) * sz = a.length + i * sz by rw [Nat.add_mul, ha]; omega, List.drop_append, List.drop_of_length_le (i := a.length + i * sz) (l := a) (by omega), List.nil_append, Nat.add_sub_cancel_left]
    exact this
theorem flat_len {α : Type} {sz : Nat} : ∀ {rows : List (List α)} (h : ∀ r ∈ rows, r.length = sz), rows.flatten.length = rows.length * sz
  | [], _ => by simp
  | a :: rows, h => by
    rw [List.flatten_cons, List.length_append, h a (.head _), flat_len fun x hx => h x (.tail _ hx), List.length_cons, Nat.add_mul]
    omega
theorem splice_flat {α : Type} {sz : Nat} : ∀ {rows : List (List α)} (h : ∀ r ∈ rows, r.length = sz) (i : Nat) (r : List α), r.length = sz → i < rows.length → splice rows.flatten (i * sz) r = (rows.set i r).flatten
  | [], _, i, r, _, hi => by simp at hi
  | a :: rows, h, 0, r, hr, hi => by
    have := h a (.head _)
    simp only [splice,Nat.zero_mul,zn2,za9,List.set_cons_zero,List.flatten_cons,zl6]
    rw [List.drop_append_of_le_length (by omega), List.drop_of_length_le (by omega), List.nil_append]
  | a :: rows, h, i + 1, r, hr, hi => by
    have ha := h a (.head _)
    have ih := splice_flat (fun x hx => h x (.tail _ hx)) i r hr (by simpa using hi)
    simp only [splice,List.set_cons_succ,List.flatten_cons] at ih ⊢
    rw [← ih, show (i + 1) * sz = a.length + i * sz by rw [Nat.add_mul, ha]; omega, List.take_append, List.take_of_length_le (i := a.length + i * sz) (l := a) (by omega), Nat.add_sub_cancel_left, show a.length + i * sz + r.length = a.length + (i * sz + r.length) by omega, List.drop_append, List.drop_of_length_le (i := a.length + (i * sz + r.length)) (l := a) (by omega), List.nil_append, Nat.add_sub_cancel_left]
    simp only [List.append_assoc]
theorem chunk_flat {sz : Nat} {rows : List (List AV)} (h : ∀ r ∈ rows, r.length = sz) : chunk sz rows.length rows.flatten = rows := by
  unfold chunk
  refine List.ext_getElem (by simp) fun i h1 h2 => ?_
  simp only [List.getElem_map,List.getElem_range]
  exact flat_at h i _ (List.getElem?_eq_getElem h2)
theorem wOps_fz' {O : Outs σ} {nt k : Nat} {th : List Nat} {i d sz : Nat} {r : List AOper} {o : AOper} {e : Nat → AV} {g : Nat → Nat} {v : Nat → List AV} {tg : Nat → Nat} {tp : Nat → Option Nat} {x : σ} {K : St σ → Prop} :
    wOps (sys O P T nt k th [(i, d, sz)]) ⟨e, g, v, tg, tp, x⟩ (o :: r) K = if o.dst.getD 0 = i then wStep (sys O P T nt k th [(i, d, sz)]) true (St.frz ⟨e, g, v, tg, tp, x⟩ d sz) o fun s => wOps (sys O P T nt k th [(i, d, sz)]) s r K else wStep (sys O P T nt k th [(i, d, sz)]) true ⟨e, g, v, tg, tp, x⟩ o fun s => wOps (sys O P T nt k th [(i, d, sz)]) s r K := by
  simp only [wOps,wFrz,sys,List.lookup]
  by_cases h : o.dst.getD 0 = i
  · simp [h]
  · have : (o.dst.getD 0 == i) = false := by simpa using h
    simp [h, this]
theorem Item.len (x : Item) : x.row.length = 7 := rfl
theorem rows_len (l : List Item) : ∀ r ∈ l.map Item.row, r.length = 7 := by
  intro r hr
  obtain ⟨x, _, rfl⟩ := List.mem_map.1 hr
  rfl
theorem Item.weakps (l : List Item) : (l.map Item.row).flatten.map AV.weakp = (l.map Item.row).flatten := by
  induction l with
  | nil => rfl
  | cons x l ih => rw [List.map_cons, List.flatten_cons, List.map_append, ih]; rfl
theorem with_con (L : Lay P T) (l : List Item) (p : PatchS) (n : Nat) (x : Item) (hl : l.length ≤ 1048576) (hn : n < l.length) : Con P T 104 [chg l p n, .agg x.row] (.agg [.sl 7 .ro ((l.set n x).map Item.row)]) := by
  refine Con_of nul L.t_patch_change_with [] [(15, 107, 7)] (by exact Nat.le_of_ble_eq_true rfl) ?_
  show wCode _ b_patch_change_with _ _ _ _
  simp -implicitDefEqProofs only [b_patch_change_with,chg,PatchS.row,Item.row,za0,za1,za2,za3,za4,eff,AV.ptrOf,AV.tokOf,za5,za6,AV.weaks,AV.weak1,za7,za8,za9,zb0,zb1,zb2,zb3,zb4,zb5,zb6,zb7,zb8,zb9,zc0,zc1,zc2,zc3,zc4,zc5,zc6,zc7,zc8,zc9,zd0,zd1,zd2,zd3,zd4,zd5,zd6,zd7,zd8,zd9,ze0,ze1,ze2,ze3,ze4,ze5,ze6,ze7,ze8,ze9,zf0,zf1,zf2,zf3,zf4,zf5,zf6,zf7,zf8,zf9,zg0,zg1,zg2,zg3,zg4,zg5,zg6,zg7,zg8,zg9,zh0,zh1,zh2,zh3,zh4,zh5,zh6,zh7,zh8,zh9,zi0,zi1,zi2,zi3,zi4,zi5,zi6,wSnil,zi7,zi8,zi9,zj0,zj1,zj2,zj3,zj4,zj5,zj6,zj7,zj8,AV.flatB,AV.flatBs,zj9,zk0,zk1,zk2,zk3,zk4,zk5,zk6,act,AV.cells,AV.mk,AV.asSl,AV.asInt,AV.vslOf,wIdx,zk7,zk8,zk9,zl0,zl1,zl2,zl3,st0,env0,zl4,zl5,zl6,Nat.reduceAdd,Nat.reduceEqDiff,Nat.reduceLeDiff,↓reduceIte,AV.ofV,unV,← decide_not,zl7,zl8,zl9,zm0,zm1,zm2,zm3,zm4,zm5,zm6,zm7,zm8,zm9,zn0,zn1,zn2,zn3,zn4,zn5,zn6,zn7,reduceCtorEq,rowsOf,pureCells,AV.weak,AV.pureB,AV.pureBs,zn8,zn9,zo0,zo1,zo2,Nat.reduceBEq,zo3,zo4,zo5,zo6,zo7,zo8,zo9,zp0,zp1,wOps_fz']
  refine wCall_I (clone_I L 100 l hl (by omega)) ?_
  rintro _ s ⟨rfl, rfl⟩ he
  have hlen : (l.map Item.row).flatten.length = l.length * 7 := by rw [flat_len (rows_len l), List.length_map]
  simp -implicitDefEqProofs only [za0,za1,za2,za3,za4,eff,AV.ptrOf,AV.tokOf,za5,za6,AV.weaks,AV.weak1,za7,za8,za9,zb0,zb1,zb2,zb3,zb4,zb5,zb6,zb7,zb8,zb9,zc0,zc1,zc2,zc3,zc4,zc5,zc6,zc7,zc8,zc9,zd0,zd1,zd2,zd3,zd4,zd5,zd6,zd7,zd8,zd9,ze0,ze1,ze2,ze3,ze4,ze5,ze6,ze7,ze8,ze9,zf0,zf1,zf2,zf3,zf4,zf5,zf6,zf7,zf8,zf9,zg0,zg1,zg2,zg3,zg4,zg5,zg6,zg7,zg8,zg9,zh0,zh1,zh2,zh3,zh4,zh5,zh6,zh7,zh8,zh9,zi0,zi1,zi2,zi3,zi4,zi5,zi6,wSnil,zi7,zi8,zi9,zj0,zj1,zj2,zj3,zj4,zj5,zj6,zj7,zj8,AV.flatB,AV.flatBs,zj9,zk0,zk1,zk2,zk3,zk4,zk5,zk6,act,AV.cells,AV.mk,AV.asSl,AV.asInt,AV.vslOf,wIdx,zk7,zk8,zk9,zl0,zl1,zl2,zl3,st0,env0,zl4,zl5,zl6,Nat.reduceAdd,Nat.reduceEqDiff,Nat.reduceLeDiff,↓reduceIte,AV.ofV,unV,← decide_not,zl7,zl8,zl9,zm0,zm1,zm2,zm3,zm4,zm5,zm6,zm7,zm8,zm9,zn0,zn1,zn2,zn3,zn4,zn5,zn6,zn7,reduceCtorEq,rowsOf,pureCells,AV.weak,AV.pureB,AV.pureBs,zn8,zn9,zo0,zo1,zo2,Nat.reduceBEq,zo3,zo4,zo5,zo6,zo7,zo8,zo9,zp0,zp1,wOps_fz',zr0]
  refine ⟨⟨by omega, by omega⟩, by rw [hlen]; omega, ?_⟩
  have hc : splice (l.map Item.row).flatten (n * 7) x.row = ((l.set n x).map Item.row).flatten := by
    rw [splice_flat (rows_len l) n x.row rfl (by simpa using hn), ← List.map_set]
  have hcl : ((l.set n x).map Item.row).flatten.length = l.length * 7 := by rw [flat_len (rows_len _), List.length_map, List.length_set]
  have hch : chunk 7 l.length ((l.set n x).map Item.row).flatten = (l.set n x).map Item.row := by
    have := chunk_flat (rows_len (l.set n x))
    rwa [List.length_map, List.length_set] at this
  generalize hS : St.frz (σ := Unit) _ 107 7 = s1
  have f5 : s1.env 5 = .sl 7 .ro ((l.set n x).map Item.row) := by
    subst hS
    simp only [St.frz,zl4,Nat.reduceEqDiff,zo3,zo4,AV.frz,AV.frz1]
    rw [show ([.imm (.int .i64 x.kind), .imm (.string x.id), .imm (.string x.parent), .imm (.string x.number), .imm (.string x.north), .imm (.string x.south), .imm (.bool (tb x.gone))] : List AV) = x.row from rfl, hc, Item.weakps, if_pos ⟨trivial, trivial, trivial, by rw [hcl]; omega⟩, List.drop_zero, hch]
  have f4 : s1.env 4 = .ptr 4 1 0 := by
    subst hS
    simp [St.frz, upd_eq, AV.frz, AV.frz1]
  have fg : s1.gen 4 = 1 := by
    subst hS
    simp [St.frz, upd_eq]
  have fv : s1.var 4 = [.imm (.slice none 0 0)] := by
    subst hS
    simp [St.frz, upd_eq, AV.frz1]
  clear hS
  obtain ⟨e, g, v, tg, tp, x'⟩ := s1
  simp only at f4 f5 fg fv
  simp -implicitDefEqProofs only [f4,f5,fg,fv,fills,splice,zq7,zq8,c_patch_change_with,za0,za1,za2,za3,za4,eff,AV.ptrOf,AV.tokOf,za5,za6,AV.weaks,AV.weak1,za7,za8,za9,zb0,zb1,zb2,zb3,zb4,zb5,zb6,zb7,zb8,zb9,zc0,zc1,zc2,zc3,zc4,zc5,zc6,zc7,zc8,zc9,zd0,zd1,zd2,zd3,zd4,zd5,zd6,zd7,zd8,zd9,ze0,ze1,ze2,ze3,ze4,ze5,ze6,ze7,ze8,ze9,zf0,zf1,zf2,zf3,zf4,zf5,zf6,zf7,zf8,zf9,zg0,zg1,zg2,zg3,zg4,zg5,zg6,zg7,zg8,zg9,zh0,zh1,zh2,zh3,zh4,zh5,zh6,zh7,zh8,zh9,zi0,zi1,zi2,zi3,zi4,zi5,zi6,wSnil,zi7,zi8,zi9,zj0,zj1,zj2,zj3,zj4,zj5,zj6,zj7,zj8,AV.flatB,AV.flatBs,zj9,zk0,zk1,zk2,zk3,zk4,zk5,zk6,act,AV.cells,AV.mk,AV.asSl,AV.asInt,AV.vslOf,wIdx,zk7,zk8,zk9,zl0,zl1,zl2,zl3,st0,env0,zl4,zl5,zl6,Nat.reduceAdd,Nat.reduceEqDiff,Nat.reduceLeDiff,↓reduceIte,AV.ofV,unV,← decide_not,zl7,zl8,zl9,zm0,zm1,zm2,zm3,zm4,zm5,zm6,zm7,zm8,zm9,zn0,zn1,zn2,zn3,zn4,zn5,zn6,zn7,reduceCtorEq,rowsOf,pureCells,AV.weak,AV.pureB,AV.pureBs,zn8,zn9,zo0,zo1,zo2,Nat.reduceBEq,zo3,zo4,zo5,zo6,zo7,zo8,zo9,zp0,zp1,wOps_fz']
  simp -implicitDefEqProofs only [zp5,f4,f5,fg,fv,zp2,zp3,zp4,zp6,zp7,zp8,zp9,zq0,zq1,zl4,Nat.reduceEqDiff,↓reduceIte,zm0]
  exact ⟨⟨trivial, Nat.le_refl _, Nat.le_refl _⟩, endR_pure (σ := Unit) (st := st0 () []) (a := .agg [.sl 7 .ro ((l.set n x).map Item.row)]) rfl rfl⟩
end Go.Av

namespace Go.Av
variable {P : Program} {T : List Nat} {σ : Type}
theorem ends_ptr {n : Nat} {c : ACode} {s s' d q off m : Nat} {ag : Bool} {r b : AV} {e : Nat → AV} {g : Nat → Nat} {v : Nat → List AV} {tg : Nat → Nat} {tp : Nat → Option Nat} {x : σ} (h : e s = .ptr d q off) (hq : q = g d ∧ 1 ≤ q ∧ off + m ≤ (v d).length) (hb : AV.mk ag (((v d).drop off).take m) = some b) (hr : endR (.tup [b, e s']) r (⟨e, g, v, tg, tp, x⟩ : St σ)) : ends ⟨n, c, [(s, some (ag, m)), (s', none)]⟩ r (⟨e, g, v, tg, tp, x⟩ : St σ) := by
  simp only [ends, resL, resA, h, if_pos hq, hb, Option.map_some, wOpt_some, resV]
  exact hr
theorem number69_con (L : Lay P T) (l : List Item) (p : PatchS) (n : Nat) (a : Item) (hl : l.length ≤ 1048576) (ha : l[n]? = some a) : Con P T 69 [chg l p n] (.tup [.agg [.sl 7 .ro ((l.set n { a with number := p.number }).map Item.row)], .imm (.int .i64 0)]) := by
  have hn := (List.getElem?_eq_some_iff.1 ha).1
  refine Con_of nul L.t_patch_change_number [] [] (by exact Nat.le_of_ble_eq_true rfl) ?_
  show wCode _ b_patch_change_number _ _ _ _
  simp -implicitDefEqProofs only [b_patch_change_number,chg,PatchS.row,Item.row,za0,za1,za2,za3,za4,eff,AV.ptrOf,AV.tokOf,za5,za6,AV.weaks,AV.weak1,za7,za8,za9,zb0,zb1,zb2,zb3,zb4,zb5,zb6,zb7,zb8,zb9,zc0,zc1,zc2,zc3,zc4,zc5,zc6,zc7,zc8,zc9,zd0,zd1,zd2,zd3,zd4,zd5,zd6,zd7,zd8,zd9,ze0,ze1,ze2,ze3,ze4,ze5,ze6,ze7,ze8,ze9,zf0,zf1,zf2,zf3,zf4,zf5,zf6,zf7,zf8,zf9,zg0,zg1,zg2,zg3,zg4,zg5,zg6,zg7,zg8,zg9,zh0,zh1,zh2,zh3,zh4,zh5,zh6,zh7,zh8,zh9,zi0,zi1,zi2,zi3,zi4,zi5,zi6,wSnil,zi7,zi8,zi9,zj0,zj1,zj2,zj3,zj4,zj5,zj6,zj7,zj8,AV.flatB,AV.flatBs,zj9,zk0,zk1,zk2,zk3,zk4,zk5,zk6,act,AV.cells,AV.mk,AV.asSl,AV.asInt,AV.vslOf,wIdx,zk7,zk8,zk9,zl0,zl1,zl2,zl3,st0,env0,zl4,zl5,zl6,Nat.reduceAdd,Nat.reduceEqDiff,Nat.reduceLeDiff,↓reduceIte,AV.ofV,unV,← decide_not,zl7,zl8,zl9,zm0,zm1,zm2,zm3,zm4,zm5,zm6,zm7,zm8,zm9,zn0,zn1,zn2,zn3,zn4,zn5,zn6,zn7,reduceCtorEq,rowsOf,pureCells,AV.weak,AV.pureB,AV.pureBs,zn8,zn9,zo0,zo1,zo2,Nat.reduceBEq,zo3,zo4,zo5,zo6,zo7,zo8,zo9,zp0,zp1,zq9,zr1,zr2,zr3,and_imp,zr4,zr0]
  refine ⟨⟨by omega, by omega⟩, fun a' ha' => ?_⟩
  rw [ha] at ha'
  injection ha' with ha'
  subst ha'
  refine ⟨Nat.le_of_ble_eq_true rfl, Nat.le_of_ble_eq_true rfl, ?_⟩
  refine wCall_pure (with_con L l p n { a with number := p.number } hl hn) rfl rfl ?_ ?_
  · exact AV.les2_refl _
  simp -implicitDefEqProofs only [c_patch_change_number,splice,zq7,zq8,za9,za0,za1,za2,za3,za4,eff,AV.ptrOf,AV.tokOf,za5,za6,AV.weaks,AV.weak1,za7,za8,zb0,zb1,zb2,zb3,zb4,zb5,zb6,zb7,zb8,zb9,zc0,zc1,zc2,zc3,zc4,zc5,zc6,zc7,zc8,zc9,zd0,zd1,zd2,zd3,zd4,zd5,zd6,zd7,zd8,zd9,ze0,ze1,ze2,ze3,ze4,ze5,ze6,ze7,ze8,ze9,zf0,zf1,zf2,zf3,zf4,zf5,zf6,zf7,zf8,zf9,zg0,zg1,zg2,zg3,zg4,zg5,zg6,zg7,zg8,zg9,zh0,zh1,zh2,zh3,zh4,zh5,zh6,zh7,zh8,zh9,zi0,zi1,zi2,zi3,zi4,zi5,zi6,wSnil,zi7,zi8,zi9,zj0,zj1,zj2,zj3,zj4,zj5,zj6,zj7,zj8,AV.flatB,AV.flatBs,zj9,zk0,zk1,zk2,zk3,zk4,zk5,zk6,act,AV.cells,AV.mk,AV.asSl,AV.asInt,AV.vslOf,wIdx,zk7,zk8,zk9,zl0,zl1,zl2,zl3,st0,env0,zl4,zl5,zl6,Nat.reduceAdd,Nat.reduceEqDiff,Nat.reduceLeDiff,↓reduceIte,AV.ofV,unV,← decide_not,zl7,zl8,zl9,zm0,zm1,zm2,zm3,zm4,zm5,zm6,zm7,zm8,zm9,zn0,zn1,zn2,zn3,zn4,zn5,zn6,zn7,reduceCtorEq,rowsOf,pureCells,AV.weak,AV.pureB,AV.pureBs,zn8,zn9,zo0,zo1,zo2,Nat.reduceBEq,zo3,zo4,zo5,zo6,zo7,zo8,zo9,zp0,zp1]
  refine ends_ptr (d := 2) (q := 1) (off := 0) (by simp [upd]) ⟨by simp [upd], Nat.le_refl _, by simp [upd]⟩ (b := .agg [.sl 7 .ro ((l.set n { a with number := p.number }).map Item.row)]) (by simp [upd, AV.mk]) ?_
  exact endR_pure (σ := Unit) (st := st0 () []) (a := .tup [.agg [.sl 7 .ro ((l.set n { a with number := p.number }).map Item.row)], .imm (.int .i64 0)]) rfl rfl
end Go.Av

namespace Go.Av
variable {P : Program} {T : List Nat} {σ : Type}
theorem gone71_con (L : Lay P T) (l : List Item) (p : PatchS) (n : Nat) (a : Item) (hl : l.length ≤ 1048576) (ha : l[n]? = some a) : Con P T 71 [chg l p n] (.tup [.agg [.sl 7 .ro ((l.set n { a with gone := decide (p.kind = 5) }).map Item.row)], .imm (.int .i64 0)]) := by
  have hn := (List.getElem?_eq_some_iff.1 ha).1
  refine Con_of nul L.t_patch_change_gone [] [] (by exact Nat.le_of_ble_eq_true rfl) ?_
  show wCode _ b_patch_change_gone _ _ _ _
  simp -implicitDefEqProofs only [b_patch_change_gone,chg,PatchS.row,Item.row,za0,za1,za2,za3,za4,eff,AV.ptrOf,AV.tokOf,za5,za6,AV.weaks,AV.weak1,za7,za8,za9,zb0,zb1,zb2,zb3,zb4,zb5,zb6,zb7,zb8,zb9,zc0,zc1,zc2,zc3,zc4,zc5,zc6,zc7,zc8,zc9,zd0,zd1,zd2,zd3,zd4,zd5,zd6,zd7,zd8,zd9,ze0,ze1,ze2,ze3,ze4,ze5,ze6,ze7,ze8,ze9,zf0,zf1,zf2,zf3,zf4,zf5,zf6,zf7,zf8,zf9,zg0,zg1,zg2,zg3,zg4,zg5,zg6,zg7,zg8,zg9,zh0,zh1,zh2,zh3,zh4,zh5,zh6,zh7,zh8,zh9,zi0,zi1,zi2,zi3,zi4,zi5,zi6,wSnil,zi7,zi8,zi9,zj0,zj1,zj2,zj3,zj4,zj5,zj6,zj7,zj8,AV.flatB,AV.flatBs,zj9,zk0,zk1,zk2,zk3,zk4,zk5,zk6,act,AV.cells,AV.mk,AV.asSl,AV.asInt,AV.vslOf,wIdx,zk7,zk8,zk9,zl0,zl1,zl2,zl3,st0,env0,zl4,zl5,zl6,Nat.reduceAdd,Nat.reduceEqDiff,Nat.reduceLeDiff,↓reduceIte,AV.ofV,unV,← decide_not,zl7,zl8,zl9,zm0,zm1,zm2,zm3,zm4,zm5,zm6,zm7,zm8,zm9,zn0,zn1,zn2,zn3,zn4,zn5,zn6,zn7,reduceCtorEq,rowsOf,pureCells,AV.weak,AV.pureB,AV.pureBs,zn8,zn9,zo0,zo1,zo2,Nat.reduceBEq,zo3,zo4,zo5,zo6,zo7,zo8,zo9,zp0,zp1,zq9,zr1,zr2,zr3,and_imp,zr4,zr0]
  refine ⟨⟨by omega, by omega⟩, fun a' ha' => ?_⟩
  rw [ha] at ha'
  injection ha' with ha'
  subst ha'
  refine ⟨Nat.le_of_ble_eq_true rfl, Nat.le_of_ble_eq_true rfl, ?_⟩
  refine wCall_pure (with_con L l p n { a with gone := decide (p.kind = 5) } hl hn) rfl rfl ?_ ?_
  · exact AV.les2_refl _
  simp -implicitDefEqProofs only [c_patch_change_gone,splice,zq7,zq8,za9,za0,za1,za2,za3,za4,eff,AV.ptrOf,AV.tokOf,za5,za6,AV.weaks,AV.weak1,za7,za8,zb0,zb1,zb2,zb3,zb4,zb5,zb6,zb7,zb8,zb9,zc0,zc1,zc2,zc3,zc4,zc5,zc6,zc7,zc8,zc9,zd0,zd1,zd2,zd3,zd4,zd5,zd6,zd7,zd8,zd9,ze0,ze1,ze2,ze3,ze4,ze5,ze6,ze7,ze8,ze9,zf0,zf1,zf2,zf3,zf4,zf5,zf6,zf7,zf8,zf9,zg0,zg1,zg2,zg3,zg4,zg5,zg6,zg7,zg8,zg9,zh0,zh1,zh2,zh3,zh4,zh5,zh6,zh7,zh8,zh9,zi0,zi1,zi2,zi3,zi4,zi5,zi6,wSnil,zi7,zi8,zi9,zj0,zj1,zj2,zj3,zj4,zj5,zj6,zj7,zj8,AV.flatB,AV.flatBs,zj9,zk0,zk1,zk2,zk3,zk4,zk5,zk6,act,AV.cells,AV.mk,AV.asSl,AV.asInt,AV.vslOf,wIdx,zk7,zk8,zk9,zl0,zl1,zl2,zl3,st0,env0,zl4,zl5,zl6,Nat.reduceAdd,Nat.reduceEqDiff,Nat.reduceLeDiff,↓reduceIte,AV.ofV,unV,← decide_not,zl7,zl8,zl9,zm0,zm1,zm2,zm3,zm4,zm5,zm6,zm7,zm8,zm9,zn0,zn1,zn2,zn3,zn4,zn5,zn6,zn7,reduceCtorEq,rowsOf,pureCells,AV.weak,AV.pureB,AV.pureBs,zn8,zn9,zo0,zo1,zo2,Nat.reduceBEq,zo3,zo4,zo5,zo6,zo7,zo8,zo9,zp0,zp1]
  refine ends_ptr (d := 2) (q := 1) (off := 0) (by simp [upd]) ⟨by simp [upd], Nat.le_refl _, by simp [upd]⟩ (b := .agg [.sl 7 .ro ((l.set n { a with gone := decide (p.kind = 5) }).map Item.row)]) (by simp [upd, AV.mk]) ?_
  exact endR_pure (σ := Unit) (st := st0 () []) (a := .tup [.agg [.sl 7 .ro ((l.set n { a with gone := decide (p.kind = 5) }).map Item.row)], .imm (.int .i64 0)]) rfl rfl
end Go.Av

namespace Go.Av
theorem padTo_le' {l : List AV} {m : Nat} (h : m ≤ l.length) : padTo l m = l := by simp [padTo, Nat.sub_eq_zero_of_le h]
theorem splice_app' {l r xs : List AV} {i : Nat} (h : l.length = i) : splice (l ++ r) i xs = l ++ (xs ++ r.drop xs.length) := by
  subst h
  simp [splice, List.drop_append]
/-- Room was made behind A; x and D are copied into it. -/
theorem grow_cells {A R x D : List AV} (hr : R.length = x.length + D.length) : splice (padTo (splice (padTo (A ++ R) (A.length + x.length)) A.length x) (A.length + x.length + D.length)) (A.length + x.length) D = A ++ (x ++ D) := by
  have e2 : splice (padTo (A ++ R) (A.length + x.length)) A.length x = (A ++ x) ++ R.drop x.length := by
    rw [padTo_le' (by simp; omega), splice_app' rfl, List.append_assoc]
  rw [e2, padTo_le' (by simp; omega), splice_app' (by simp)]
  rw [List.drop_drop, List.drop_of_length_le (l := R) (by omega), List.append_nil, List.append_assoc]
/-- D is moved up in place, and x is copied before it. -/
theorem inplace_cells {A x D : List AV} : splice (padTo (splice (padTo (A ++ D) (A.length + x.length + D.length)) (A.length + x.length) D) (A.length + x.length)) A.length x = A ++ (x ++ D) := by
  have e1 : padTo (A ++ D) (A.length + x.length + D.length) = A ++ (D ++ List.replicate x.length AV.dead) := by
    unfold padTo
    rw [show A.length + x.length + D.length - (A ++ D).length = x.length by simp; omega, List.append_assoc]
  obtain ⟨u, w, hu, hw⟩ : ∃ u w : List AV, D ++ List.replicate x.length AV.dead = u ++ w ∧ u.length = x.length :=
    ⟨(D ++ List.replicate x.length AV.dead).take x.length, (D ++ List.replicate x.length AV.dead).drop x.length, (List.take_append_drop _ _).symm, by simp⟩
  have hwl : w.length = D.length := by
    have := congrArg List.length hu
    simp at this
    omega
  rw [e1, hu, ← List.append_assoc, ← hw, show A.length + u.length = (A ++ u).length by simp, splice_app' rfl, List.drop_of_length_le (l := w) (by omega), List.append_nil, List.append_assoc, padTo_le' (by simp), splice_app' rfl]
  rw [← hw, List.drop_left]
end Go.Av

namespace Go.Av
abbrev Bs := ByteArray
def Proper (x : Item) : Prop := NumP x.number ∧ NameP x.id ∧ ((x.kind = 1 ∧ x.north = nilS ∧ x.south = nilS ∧ x.gone = false) ∨ (x.kind = 2 ∧ x.north.size ≤ 400 ∧ x.south.size ≤ 400))
instance (x : Item) : Decidable (Proper x) := inferInstanceAs (Decidable (_ ∧ _ ∧ _))
theorem NameP.ne {s : Bs} (h : NameP s) : s ≠ nilS := by
  rintro rfl
  have := h.2.1
  simp [nilS, ByteArray.size] at this
theorem Proper.ne {x : Item} (h : Proper x) : x.id ≠ nilS := h.2.1.ne
/-- The ancestors of an item behind those that are open; none if there is no such place. -/
def openAt (op : List Bs) (x : Item) : Option (List Bs) := if x.parent = nilS then some [] else if x.parent ∈ op then some (op.take (op.idxOf x.parent + 1)) else none
def openNext (op : List Bs) (x : Item) : List Bs := if x.kind = 1 then op ++ [x.id] else op
/-- The program's walk: the ancestors of the items that it visits; does it come to the end. -/
def walkP (seen op : List Bs) : List Item → List (List Bs) × Bool
  | [] => ([], true)
  | x :: l => if Proper x ∧ x.id ∉ seen then (match openAt op x with | none => ([], false) | some o => (o :: (walkP (x.id :: seen) (openNext o x) l).1, (walkP (x.id :: seen) (openNext o x) l).2)) else ([], false)
def ValidC (l : List Item) : Prop := (walkP [] [] l).2 = true ∧ l.length ≤ 2000
instance (l : List Item) : Decidable (ValidC l) := inferInstanceAs (Decidable (_ ∧ _))
def ids (l : List Item) : List Bs := l.map (·.id)
@[simp] theorem ids_nil : ids [] = [] := rfl
@[simp] theorem ids_cons (x : Item) (l : List Item) : ids (x :: l) = x.id :: ids l := rfl
@[simp] theorem ids_append (a b : List Item) : ids (a ++ b) = ids a ++ ids b := by simp [ids]
theorem mem_ids {l : List Item} {y : Bs} : y ∈ ids l ↔ ∃ x ∈ l, x.id = y := by simp [ids]
/-- Items each of which has p as its parent, or stands below such a one; with their ancestors (s: those above). -/
inductive Opens : List Bs → Bs → List Item → List (List Bs) → Prop
  | nil (s : List Bs) (p : Bs) : Opens s p [] []
  | cons {s : List Bs} {p : Bs} {x : Item} {B C : List Item} {ob oc : List (List Bs)} : x.parent = p → Opens (s ++ [x.id]) x.id B ob → (B = [] ∨ x.kind = 1) → Opens s p C oc → Opens s p (x :: (B ++ C)) (s :: (ob ++ oc))
/-- A place among items: its parent is q (sq: the ancestors of what stands there). -/
inductive Ctx : List Bs → Bs → List Item → List Item → List Bs → Bs → List (List Bs) → List (List Bs) → Prop
  | here {s : List Bs} {p : Bs} {A C : List Item} {oa oc : List (List Bs)} : Opens s p A oa → Opens s p C oc → Ctx s p A C s p oa oc
  | deep {s : List Bs} {p : Bs} {A0 A1 C1 C0 : List Item} {x : Item} {sq : List Bs} {q : Bs} {o0 o1 p1 p0 : List (List Bs)} : Opens s p A0 o0 → x.parent = p → x.kind = 1 → Ctx (s ++ [x.id]) x.id A1 C1 sq q o1 p1 → Opens s p C0 p0 → Ctx s p (A0 ++ x :: A1) (C1 ++ C0) sq q (o0 ++ s :: o1) (p1 ++ p0)
theorem Opens.length {s : List Bs} {p : Bs} {l : List Item} {os : List (List Bs)} (h : Opens s p l os) : os.length = l.length := by
  induction h with
  | nil => rfl
  | cons _ _ _ _ i1 i2 => simp [i1, i2]
theorem Opens.append {s : List Bs} {p : Bs} {A C : List Item} {oa oc : List (List Bs)} (h : Opens s p A oa) (k : Opens s p C oc) : Opens s p (A ++ C) (oa ++ oc) := by
  induction h with
  | nil => exact k
  | cons h1 h2 h3 _ _ i2 =>
    have := Opens.cons h1 h2 h3 (i2 k)
    simpa using this
theorem Opens.pre {s : List Bs} {p : Bs} {l : List Item} {os : List (List Bs)} (h : Opens s p l os) : ∀ o ∈ os, s <+: o := by
  induction h with
  | nil => simp
  | cons _ _ _ _ i1 i2 =>
    intro o ho
    simp only [List.mem_cons,List.mem_append] at ho
    rcases ho with rfl | ho | ho
    · exact List.prefix_refl _
    · exact (List.prefix_append _ _).trans (i1 o ho)
    · exact i2 o ho
theorem Opens.mem {s : List Bs} {p : Bs} {l : List Item} {os : List (List Bs)} (h : Opens s p l os) : ∀ o ∈ os, ∀ y ∈ o, y ∈ s ∨ y ∈ ids l := by
  induction h with
  | nil => simp
  | @cons s p x B C ob oc _ _ _ _ i1 i2 =>
    intro o ho y hy
    simp only [List.mem_cons,List.mem_append,ids_cons,ids_append] at ho ⊢
    rcases ho with rfl | ho | ho
    · exact .inl hy
    · rcases i1 o ho y hy with h | h
      · rw [List.mem_append, List.mem_singleton] at h
        rcases h with h | h
        · exact .inl h
        · exact .inr (.inl h)
      · exact .inr (.inr (.inl h))
    · rcases i2 o ho y hy with h | h
      · exact .inl h
      · exact .inr (.inr (.inr h))
/-- Each item's parent is p, or stands among the items. -/
theorem Opens.par {s : List Bs} {p : Bs} {l : List Item} {os : List (List Bs)} (h : Opens s p l os) : ∀ y ∈ l, y.parent = p ∨ y.parent ∈ ids l := by
  induction h with
  | nil => simp
  | @cons s p x B C ob oc h1 _ _ _ i1 i2 =>
    intro y hy
    simp only [List.mem_cons,List.mem_append,ids_cons,ids_append] at hy ⊢
    rcases hy with rfl | hy | hy
    · exact .inl h1
    · rcases i1 y hy with h | h
      · exact .inr (.inl h)
      · exact .inr (.inr (.inl h))
    · rcases i2 y hy with h | h
      · exact .inl h
      · exact .inr (.inr (.inr h))
theorem Opens.restack {s : List Bs} {p : Bs} {l : List Item} {os : List (List Bs)} (h : Opens s p l os) : ∀ s', ∃ os', Opens s' p l os' := by
  induction h with
  | nil => exact fun s' => ⟨_, .nil s' _⟩
  | @cons s p x B C ob oc h1 _ h3 _ i1 i2 =>
    intro s'
    obtain ⟨o1, k1⟩ := i1 (s' ++ [x.id])
    obtain ⟨o2, k2⟩ := i2 s'
    exact ⟨_, .cons h1 k1 h3 k2⟩
theorem Ctx.plug {s : List Bs} {p : Bs} {A C : List Item} {sq : List Bs} {q : Bs} {oa oc : List (List Bs)} (h : Ctx s p A C sq q oa oc) {H : List Item} {oh : List (List Bs)} (k : Opens sq q H oh) : Opens s p (A ++ (H ++ C)) (oa ++ (oh ++ oc)) := by
  induction h with
  | here h1 h2 => exact h1.append (k.append h2)
  | deep h1 h2 h3 _ h5 ih =>
    have := h1.append (Opens.cons h2 (ih k) (.inr h3) h5)
    simpa using this
theorem Ctx.front {s : List Bs} {p : Bs} {A C : List Item} {sq : List Bs} {q : Bs} {oa oc od : List (List Bs)} {D : List Item} (h : Ctx s p A C sq q oa oc) (k : Opens s p D od) : Ctx s p (D ++ A) C sq q (od ++ oa) oc := by
  cases h with
  | here h1 h2 => exact .here (k.append h1) h2
  | deep h1 h2 h3 h4 h5 =>
    have := Ctx.deep (k.append h1) h2 h3 h4 h5
    simpa using this
/-- What stands at an item's place. -/
theorem Opens.split {s : List Bs} {p : Bs} {l : List Item} {os : List (List Bs)} (h : Opens s p l os) : ∀ (A : List Item) (x : Item) (R : List Item), l = A ++ x :: R → ∃ B C sq oa ob oc, R = B ++ C ∧ Ctx s p A C sq x.parent oa oc ∧ Opens (sq ++ [x.id]) x.id B ob ∧ (B = [] ∨ x.kind = 1) ∧ os = oa ++ sq :: (ob ++ oc) := by
  induction h with
  | nil => intro A x R h; simp at h
  | @cons s p x0 B0 C0 ob0 oc0 h1 h2 h3 h4 i1 i2 =>
    intro A x R h
    cases A with
    | nil =>
      simp only [za9,List.cons.injEq] at h
      obtain ⟨rfl, rfl⟩ := h
      exact ⟨B0, C0, s, [], ob0, oc0, rfl, by rw [h1]; exact .here (.nil _ _) h4, h2, h3, rfl⟩
    | cons a A =>
      simp only [zb0,List.cons.injEq] at h
      obtain ⟨rfl, h⟩ := h
      rcases List.append_eq_append_iff.1 h with ⟨D, rfl, hD⟩ | ⟨D, hD, hC⟩
      · obtain ⟨B, C, sq, oa, ob, oc, rfl, k2, k3, k4, rfl⟩ := i2 D x R hD
        refine ⟨B, C, sq, s :: (ob0 ++ oa), ob, oc, rfl, ?_, k3, k4, by simp⟩
        have := k2.front (Opens.cons h1 h2 h3 (.nil _ _))
        simpa using this
      · cases D with
        | nil =>
          simp only [zq8,za9] at hD hC
          subst hD
          obtain ⟨B, C, sq, oa, ob, oc, rfl, k2, k3, k4, rfl⟩ := i2 [] x R (by simpa using hC.symm)
          refine ⟨B, C, sq, s :: (ob0 ++ oa), ob, oc, rfl, ?_, k3, k4, by simp⟩
          have := k2.front (Opens.cons h1 h2 h3 (.nil _ _))
          simpa using this
        | cons d D =>
          simp only [zb0,List.cons.injEq] at hC
          obtain ⟨rfl, rfl⟩ := hC
          obtain ⟨B, C, sq, oa, ob, oc, rfl, k2, k3, k4, rfl⟩ := i1 A x D hD
          refine ⟨B, C ++ C0, sq, s :: oa, ob, oc ++ oc0, by simp, ?_, k3, k4, by simp⟩
          have hk : x0.kind = 1 := by
            rcases h3 with h3 | h3
            · rw [h3] at hD; simp at hD
            · exact h3
          have := Ctx.deep (Opens.nil s p) h1 hk k2 h4
          simpa using this
/-! ### the walk -/
def Base (p : Bs) (s : List Bs) : Prop := (p = nilS ∧ s = []) ∨ (p ≠ nilS ∧ ∃ t, s = t ++ [p])
theorem openAt_base {p : Bs} {s cur : List Bs} {x : Item} (hb : Base p s) (hs : s <+: cur) (hn : cur.Nodup) (hx : x.parent = p) : openAt cur x = some s := by
  unfold openAt
  rcases hb with ⟨rfl, rfl⟩ | ⟨hp, t, rfl⟩
  · rw [if_pos hx]
  · rw [hx, if_neg hp]
    obtain ⟨r, rfl⟩ := hs
    rw [if_pos (by simp)]
    have ht : p ∉ t := by
      intro hm
      rw [List.append_assoc] at hn
      exact (List.nodup_append.1 hn).2.2 p hm p (by simp) rfl
    have hi : List.idxOf p (t ++ [p] ++ r) = t.length := by
      rw [List.append_assoc, List.idxOf_append, if_neg ht]
      simp [List.idxOf_cons]
    rw [hi, List.take_append_of_le_length (by simp), List.take_of_length_le (by simp)]
theorem walk_opens {s : List Bs} {p : Bs} {l : List Item} {os : List (List Bs)} (h : Opens s p l os) : ∀ (seen cur : List Bs) (rest : List Item), (∀ x ∈ l, Proper x) → (ids l).Nodup → (∀ y ∈ ids l, y ∉ seen) → Base p s → s <+: cur → cur.Nodup → (∀ y ∈ cur, y ∈ seen) →
    ∃ seen' cur', s <+: cur' ∧ cur'.Nodup ∧ (∀ y ∈ cur', y ∈ seen') ∧ (∀ y, y ∈ seen' ↔ y ∈ seen ∨ y ∈ ids l) ∧ walkP seen cur (l ++ rest) = (os ++ (walkP seen' cur' rest).1, (walkP seen' cur' rest).2) := by
  induction h with
  | nil => exact fun seen cur rest _ _ _ _ h1 h2 h3 => ⟨seen, cur, h1, h2, h3, by simp, rfl⟩
  | @cons s p x B C ob oc h1 hB h3 hC i1 i2 =>
    intro seen cur rest hp hn hs hb hpre hcn hcs
    simp only [ids_cons,ids_append,List.nodup_cons,List.mem_append,not_or] at hn
    obtain ⟨⟨n1, n2⟩, hn⟩ := hn
    obtain ⟨nB, nC, nd⟩ := List.nodup_append.1 hn
    simp only [List.forall_mem_cons,List.mem_append,ids_cons,ids_append] at hp hs
    have hxs : x.id ∉ seen := hs.1
    have e0 : openAt cur x = some s := openAt_base hb hpre hcn h1
    have hss : ∀ y ∈ s, y ∈ seen := fun y hy => hcs y (hpre.subset hy)
    have hsn : s.Nodup := hcn.sublist hpre.sublist
    have step : walkP seen cur (x :: (B ++ C) ++ rest) = (s :: (walkP (x.id :: seen) (openNext s x) (B ++ (C ++ rest))).1, (walkP (x.id :: seen) (openNext s x) (B ++ (C ++ rest))).2) := by
      rw [List.cons_append, walkP, if_pos ⟨hp.1, hxs⟩, e0, List.append_assoc]
    have mid : ∃ seen' cur', s <+: cur' ∧ cur'.Nodup ∧ (∀ y ∈ cur', y ∈ seen') ∧ (∀ y, y ∈ seen' ↔ (y = x.id ∨ y ∈ seen) ∨ y ∈ ids B) ∧ walkP (x.id :: seen) (openNext s x) (B ++ (C ++ rest)) = (ob ++ (walkP seen' cur' (C ++ rest)).1, (walkP seen' cur' (C ++ rest)).2) := by
      by_cases hk : x.kind = 1
      · have e1 : openNext s x = s ++ [x.id] := by simp [openNext, hk]
        rw [e1]
        obtain ⟨seen', cur', q1, q2, q3, q4, q5⟩ := i1 (x.id :: seen) (s ++ [x.id]) (C ++ rest) (fun y hy => hp.2 y (.inl hy)) nB (fun y hy => by
          rw [List.mem_cons, not_or]
          exact ⟨fun e => n1 (e ▸ hy), hs.2 y (.inl hy)⟩) (.inr ⟨hp.1.ne, s, rfl⟩) (List.prefix_refl _) (List.nodup_append.2 ⟨hsn, by simp, fun a ha b hb => by
            simp at hb
            subst hb
            exact fun e => hxs (e ▸ hss a ha)⟩) (fun y hy => by
          rw [List.mem_append, List.mem_singleton] at hy
          rw [List.mem_cons]
          rcases hy with hy | hy
          · exact .inr (hss y hy)
          · exact .inl hy)
        refine ⟨seen', cur', (List.prefix_append _ _).trans q1, q2, q3, fun y => ?_, q5⟩
        rw [q4 y, List.mem_cons]
      · have hB0 : B = [] := by rcases h3 with h | h; exact h; exact absurd h hk
        subst hB0
        cases hB
        refine ⟨x.id :: seen, s, List.prefix_refl _, hsn, fun y hy => .tail _ (hss y hy), fun y => by simp, ?_⟩
        simp [openNext, hk]
    obtain ⟨seen1, cur1, q1, q2, q3, q4, q5⟩ := mid
    obtain ⟨seen2, cur2, r1, r2, r3, r4, r5⟩ := i2 seen1 cur1 rest (fun y hy => hp.2 y (.inr hy)) nC (fun y hy => by
      rw [q4]
      rintro ((rfl | h) | h)
      · exact n2 hy
      · exact hs.2 y (.inr hy) h
      · exact nd y h y hy rfl) hb q1 q2 q3
    refine ⟨seen2, cur2, r1, r2, r3, fun y => ?_, ?_⟩
    · rw [r4, q4]
      simp only [ids_cons,ids_append,List.mem_cons,List.mem_append]
      grind
    · rw [step, q5, r5]
      simp
def Forest (p : Bs) (l : List Item) : Prop := ∀ s, ∃ os, Opens s p l os
theorem Forest.nil (p : Bs) : Forest p [] := fun s => ⟨_, .nil s p⟩
theorem Forest.cons {p : Bs} {x : Item} {B C : List Item} (h1 : x.parent = p) (h2 : Forest x.id B) (h3 : B = [] ∨ x.kind = 1) (h4 : Forest p C) : Forest p (x :: (B ++ C)) := fun s => by
  obtain ⟨o1, k1⟩ := h2 (s ++ [x.id])
  obtain ⟨o2, k2⟩ := h4 s
  exact ⟨_, .cons h1 k1 h3 k2⟩
/-- What is still to come, below those that are open (the nearest one first). -/
def Segs : List Bs → List Item → Prop
  | [], l => Forest nilS l
  | c :: r, l => ∃ A B, l = A ++ B ∧ Forest c A ∧ Segs r B
theorem Segs.more : ∀ (q : List Bs) {r : List Bs} {l : List Item}, Segs r l → Segs (q ++ r) l
  | [], _, _, h => h
  | c :: q, _, l, h => ⟨[], l, rfl, .nil _, Segs.more q h⟩
theorem Segs.zero : ∀ (r : List Bs), Segs r []
  | [] => .nil _
  | c :: r => ⟨[], [], rfl, .nil _, Segs.zero r⟩
theorem Segs.item {o : List Bs} {x : Item} {B l : List Item} (hB : Forest x.id B) (hk : B = [] ∨ x.kind = 1) (ho : (x.parent = nilS ∧ o = []) ∨ ∃ t, o = t ++ [x.parent]) (h : Segs o.reverse l) : Segs o.reverse (x :: (B ++ l)) := by
  rcases ho with ⟨hp, rfl⟩ | ⟨t, rfl⟩
  · exact Forest.cons hp hB hk h
  · simp only [List.reverse_append,za7,za8,za9,List.singleton_append] at h ⊢
    obtain ⟨L1, L2, rfl, h1, h2⟩ := h
    exact ⟨x :: (B ++ L1), L2, by simp, Forest.cons rfl hB hk h1, h2⟩
theorem openAt_some {op o : List Bs} {x : Item} (h : openAt op x = some o) : ((x.parent = nilS ∧ o = []) ∨ ∃ t, o = t ++ [x.parent]) ∧ o <+: op := by
  unfold openAt at h
  split at h
  · injection h with h
    subst h
    exact ⟨.inl ⟨by assumption, rfl⟩, List.nil_prefix⟩
  · split at h
    · rename_i hm
      injection h with h
      subst h
      refine ⟨.inr ⟨op.take (op.idxOf x.parent), ?_⟩, List.take_prefix _ _⟩
      have hlt := List.idxOf_lt_length_of_mem hm
      rw [List.take_add_one, List.getElem?_eq_getElem hlt]
      simp
    · cases h
theorem segs_walk : ∀ (l : List Item) (seen cur : List Bs), (walkP seen cur l).2 = true → Segs cur.reverse l
  | [], seen, cur, _ => Segs.zero _
  | x :: l, seen, cur, h => by
    rw [walkP] at h
    split at h
    · cases ho : openAt cur x with
      | none => rw [ho] at h; cases h
      | some o =>
        rw [ho] at h
        simp only at h
        have ih := segs_walk l _ _ h
        obtain ⟨h1, t, rfl⟩ := openAt_some ho
        rw [List.reverse_append]
        apply Segs.more
        by_cases hk : x.kind = 1
        · simp only [openNext,hk,zo3,List.reverse_append,za7,za8,za9,List.singleton_append] at ih
          obtain ⟨B, R, rfl, k1, k2⟩ := ih
          exact Segs.item k1 (.inr hk) h1 k2
        · simp only [openNext,hk,zo4] at ih
          exact Segs.item (B := []) (.nil _) (.inl rfl) h1 ih
    · cases h
theorem walk_props : ∀ (l : List Item) (seen cur : List Bs), (walkP seen cur l).2 = true → (∀ x ∈ l, Proper x) ∧ (ids l).Nodup ∧ ∀ y ∈ ids l, y ∉ seen
  | [], seen, cur, _ => by simp
  | x :: l, seen, cur, h => by
    rw [walkP] at h
    split at h
    · rename_i hc
      cases ho : openAt cur x with
      | none => rw [ho] at h; cases h
      | some o =>
        rw [ho] at h
        obtain ⟨i1, i2, i3⟩ := walk_props l _ _ h
        refine ⟨List.forall_mem_cons.2 ⟨hc.1, i1⟩, ?_, ?_⟩
        · rw [ids_cons, List.nodup_cons]
          exact ⟨fun hm => i3 _ hm (.head _), i2⟩
        · rw [ids_cons]
          intro y hy
          rcases List.mem_cons.1 hy with rfl | hy
          · exact hc.2
          · exact fun hm => i3 y hy (.tail _ hm)
    · cases h
/-- A valid code, seen as a forest. -/
structure Tree (l : List Item) (os : List (List Bs)) : Prop where
  proper : ∀ x ∈ l, Proper x
  nodup : (ids l).Nodup
  opens : Opens [] nilS l os
theorem Tree.walk {l : List Item} {os : List (List Bs)} (h : Tree l os) : walkP [] [] l = (os, true) := by
  obtain ⟨_, _, _, _, _, _, e⟩ := walk_opens h.opens [] [] [] h.proper h.nodup (by simp) (.inl ⟨rfl, rfl⟩) (List.prefix_refl _) (by simp) (by simp)
  simpa [walkP] using e
theorem validC_iff {l : List Item} : ValidC l ↔ Tree l (walkP [] [] l).1 ∧ l.length ≤ 2000 := by
  constructor
  · rintro ⟨h, hl⟩
    obtain ⟨h1, h2, _⟩ := walk_props l _ _ h
    obtain ⟨os, ho⟩ := (segs_walk l [] [] h : Forest nilS l) []
    have hT : Tree l os := ⟨h1, h2, ho⟩
    have := hT.walk
    rw [this]
    exact ⟨hT, hl⟩
  · rintro ⟨h, hl⟩
    exact ⟨by rw [h.walk], hl⟩
theorem Tree.valid {l : List Item} {os : List (List Bs)} (h : Tree l os) (hl : l.length ≤ 2000) : ValidC l := ⟨by rw [h.walk], hl⟩
theorem ValidC.tree {l : List Item} (h : ValidC l) : ∃ os, Tree l os := ⟨_, (validC_iff.1 h).1⟩
/-! ### below -/
def pickS (id : Bs) : List Item → List (List Bs) → List Bs
  | x :: l, o :: os => if id ∈ o then x.id :: pickS id l os else pickS id l os
  | _, _ => []
def belowS (l : List Item) (id : Bs) : List Bs := if ValidC l then pickS id l (walkP [] [] l).1 else []
theorem pick_append {id : Bs} : ∀ {A : List Item} {oa : List (List Bs)} {C : List Item} {oc : List (List Bs)}, oa.length = A.length → pickS id (A ++ C) (oa ++ oc) = pickS id A oa ++ pickS id C oc
  | [], [], _, _, _ => rfl
  | [], _ :: _, _, _, h => by simp at h
  | _ :: _, [], _, _, h => by simp at h
  | x :: A, o :: oa, C, oc, h => by
    have ih := pick_append (id := id) (C := C) (oc := oc) (by simpa using h : oa.length = A.length)
    simp only [zb0,pickS,ih]
    split <;> simp
theorem pick_none {id : Bs} : ∀ {A : List Item} {oa : List (List Bs)}, (∀ o ∈ oa, id ∉ o) → pickS id A oa = []
  | [], _, _ => by simp [pickS]
  | _ :: _, [], _ => by simp [pickS]
  | x :: A, o :: oa, h => by
    rw [pickS, if_neg (h o (.head _))]
    exact pick_none fun o' ho => h o' (.tail _ ho)
theorem pick_all {id : Bs} : ∀ {A : List Item} {oa : List (List Bs)}, oa.length = A.length → (∀ o ∈ oa, id ∈ o) → pickS id A oa = ids A
  | [], [], _, _ => rfl
  | [], _ :: _, h, _ => by simp at h
  | _ :: _, [], h, _ => by simp at h
  | x :: A, o :: oa, hl, h => by
    rw [pickS, if_pos (h o (.head _)), ids_cons, pick_all (by simpa using hl) fun o' ho => h o' (.tail _ ho)]
theorem Ctx.lens {s : List Bs} {p : Bs} {A C : List Item} {sq : List Bs} {q : Bs} {oa oc : List (List Bs)} (h : Ctx s p A C sq q oa oc) : oa.length = A.length ∧ oc.length = C.length := by
  induction h with
  | here h1 h2 => exact ⟨h1.length, h2.length⟩
  | deep h1 _ _ _ h5 ih => simp [h1.length, h5.length, ih.1, ih.2]
theorem Ctx.mem {s : List Bs} {p : Bs} {A C : List Item} {sq : List Bs} {q : Bs} {oa oc : List (List Bs)} (h : Ctx s p A C sq q oa oc) : (∀ y ∈ sq, y ∈ s ∨ y ∈ ids A) ∧ (∀ o ∈ oa, ∀ y ∈ o, y ∈ s ∨ y ∈ ids A) ∧ (∀ o ∈ oc, ∀ y ∈ o, y ∈ s ∨ y ∈ ids A ∨ y ∈ ids C) := by
  induction h with
  | here h1 h2 =>
    refine ⟨fun y hy => .inl hy, h1.mem, fun o ho y hy => ?_⟩
    rcases h2.mem o ho y hy with h | h
    · exact .inl h
    · exact .inr (.inr h)
  | @deep s p A0 A1 C1 C0 x sq q o0 o1 p1 p0 h1 _ _ _ h5 ih =>
    simp only [ids_append,ids_cons,List.mem_append,List.mem_cons,List.mem_singleton,List.not_mem_nil,or_false] at ih ⊢
    obtain ⟨j1, j2, j3⟩ := ih
    refine ⟨fun y hy => ?_, fun o ho y hy => ?_, fun o ho y hy => ?_⟩
    · rcases j1 y hy with (h | h) | h
      · exact .inl h
      · exact .inr (.inr (.inl h))
      · exact .inr (.inr (.inr h))
    · rcases ho with ho | rfl | ho
      · rcases h1.mem o ho y hy with h | h
        · exact .inl h
        · exact .inr (.inl h)
      · exact .inl hy
      · rcases j2 o ho y hy with (h | h) | h
        · exact .inl h
        · exact .inr (.inr (.inl h))
        · exact .inr (.inr (.inr h))
    · rcases ho with ho | ho
      · rcases j3 o ho y hy with (h | h) | h | h
        · exact .inl h
        · exact .inr (.inl (.inr (.inl h)))
        · exact .inr (.inl (.inr (.inr h)))
        · exact .inr (.inr (.inl h))
      · rcases h5.mem o ho y hy with h | h
        · exact .inl h
        · exact .inr (.inr (.inr h))
/-- A valid code around an item. -/
structure At (l : List Item) (A : List Item) (x : Item) (B C : List Item) (os : List (List Bs)) (sq : List Bs) (oa ob oc : List (List Bs)) : Prop where
  eq : l = A ++ x :: (B ++ C)
  os : os = oa ++ sq :: (ob ++ oc)
  ctx : Ctx [] nilS A C sq x.parent oa oc
  blk : Opens (sq ++ [x.id]) x.id B ob
  leaf : B = [] ∨ x.kind = 1
theorem Tree.at {l : List Item} {os : List (List Bs)} (h : Tree l os) {A : List Item} {x : Item} {R : List Item} (e : l = A ++ x :: R) : ∃ B C sq oa ob oc, R = B ++ C ∧ At l A x B C os sq oa ob oc := by
  obtain ⟨B, C, sq, oa, ob, oc, rfl, k2, k3, k4, k5⟩ := h.opens.split A x R e
  exact ⟨B, C, sq, oa, ob, oc, rfl, e, k5, k2, k3, k4⟩
theorem At.below {l A B C : List Item} {x : Item} {os : List (List Bs)} {sq : List Bs} {oa ob oc : List (List Bs)} (h : At l A x B C os sq oa ob oc) (hT : Tree l os) (hl : l.length ≤ 2000) : belowS l x.id = ids B := by
  have hn := hT.nodup
  rw [belowS, if_pos (hT.valid hl), hT.walk, h.eq, h.os]
  rw [h.eq] at hn
  simp only [ids_append,ids_cons] at hn
  obtain ⟨n1, n2, n3⟩ := List.nodup_append.1 hn
  rw [List.nodup_cons] at n2
  obtain ⟨n2, n4⟩ := n2
  have hA : x.id ∉ ids A := fun hm => n3 _ hm _ (.head _) rfl
  have hC : x.id ∉ ids C := fun hm => n2 (List.mem_append.2 (.inr hm))
  obtain ⟨l1, l2⟩ := h.ctx.lens
  obtain ⟨m1, m2, m3⟩ := h.ctx.mem
  have q1 : x.id ∉ sq := fun hm => (m1 _ hm).elim (fun h => absurd h List.not_mem_nil) hA
  rw [pick_append l1, pickS, if_neg q1, pick_append h.blk.length, pick_none (fun o ho hm => (m2 o ho _ hm).elim (fun h => absurd h List.not_mem_nil) hA), pick_none (fun o ho hm => (m3 o ho _ hm).elim (fun h => absurd h List.not_mem_nil) fun h => h.elim hA hC), pick_all h.blk.length fun o ho => (h.blk.pre o ho).subset (by simp)]
  simp
theorem below_absent {l : List Item} {id : Bs} (h : id ∉ ids l) : belowS l id = [] := by
  unfold belowS
  split
  · rename_i hv
    obtain ⟨os, hT⟩ := hv.tree
    rw [hT.walk]
    exact pick_none fun o ho hm => (hT.opens.mem o ho _ hm).elim (fun h' => absurd h' List.not_mem_nil) h
  · rfl
/-! ### under -/
def foundS (id d : Bs) : Bool → List Item → List (List Bs) → Bool
  | f, x :: l, o :: os => foundS id d (if x.id = id then decide (d = nilS ∨ d ∈ o) else f) l os
  | f, _, _ => f
def underS (l : List Item) (id d : Bs) : Prop := ValidC l ∧ foundS id d false l (walkP [] [] l).1 = true
instance (l : List Item) (id d : Bs) : Decidable (underS l id d) := inferInstanceAs (Decidable (_ ∧ _))
theorem found_absent {id d : Bs} : ∀ {l : List Item} {os : List (List Bs)} {f : Bool}, id ∉ ids l → foundS id d f l os = f
  | [], os, f, _ => by cases os <;> rfl
  | x :: l, [], f, _ => rfl
  | x :: l, o :: os, f, h => by
    simp only [ids_cons,List.mem_cons,not_or] at h
    rw [foundS, if_neg (fun e => h.1 e.symm)]
    exact found_absent h.2
theorem found_append {id d : Bs} : ∀ {A : List Item} {oa : List (List Bs)} {f : Bool} {C : List Item} {oc : List (List Bs)}, oa.length = A.length → foundS id d f (A ++ C) (oa ++ oc) = foundS id d (foundS id d f A oa) C oc
  | [], [], _, _, _, _ => by cases ‹List Item› <;> rfl
  | [], _ :: _, _, _, _, h => by simp at h
  | _ :: _, [], _, _, _, h => by simp at h
  | x :: A, o :: oa, f, C, oc, h => by
    simp only [zb0,foundS]
    exact found_append (by simpa using h)
/-- An item is below x just if it stands in x's block. -/
theorem At.under {l A B C : List Item} {x : Item} {os : List (List Bs)} {sq : List Bs} {oa ob oc : List (List Bs)} (h : At l A x B C os sq oa ob oc) (hT : Tree l os) (hl : l.length ≤ 2000) (id : Bs) : underS l id x.id ↔ id ∈ ids B := by
  have hx : x.id ≠ nilS := (hT.proper x (by rw [h.eq]; simp)).ne
  have hn := hT.nodup
  rw [h.eq] at hn
  simp only [ids_append,ids_cons] at hn
  obtain ⟨n1, n2, n3⟩ := List.nodup_append.1 hn
  rw [List.nodup_cons] at n2
  obtain ⟨n2, n4⟩ := n2
  have hA : x.id ∉ ids A := fun hm => n3 _ hm _ (.head _) rfl
  have hC : x.id ∉ ids C := fun hm => n2 (List.mem_append.2 (.inr hm))
  obtain ⟨l1, l2⟩ := h.ctx.lens
  obtain ⟨m1, m2, m3⟩ := h.ctx.mem
  have q1 : x.id ∉ sq := fun hm => (m1 _ hm).elim (fun h => absurd h List.not_mem_nil) hA
  have no : ∀ (L : List Item) (ol : List (List Bs)) (f : Bool), (∀ o ∈ ol, x.id ∉ o) → foundS id x.id f L ol = true → f = true := by
    intro L
    induction L with
    | nil => intro ol f _ hf; cases ol <;> exact hf
    | cons y L ih =>
      intro ol f hol hf
      cases ol with
      | nil => exact hf
      | cons o ol =>
        have := ih ol _ (fun o' ho' => hol o' (.tail _ ho')) hf
        by_cases hy : y.id = id
        · rw [if_pos hy] at this
          simp only [zm3] at this
          rcases this with h | h
          · exact absurd h hx
          · exact absurd h (hol o (.head _))
        · rwa [if_neg hy] at this
  have n5 : ∀ o ∈ oa, x.id ∉ o := fun o ho hm => (m2 o ho _ hm).elim (fun h => absurd h List.not_mem_nil) hA
  have n6 : ∀ o ∈ oc, x.id ∉ o := fun o ho hm => (m3 o ho _ hm).elim (fun h => absurd h List.not_mem_nil) fun h => h.elim hA hC
  have e : foundS id x.id false l (walkP [] [] l).1 = foundS id x.id (foundS id x.id (if x.id = id then decide (x.id = nilS ∨ x.id ∈ sq) else foundS id x.id false A oa) B ob) C oc := by
    rw [hT.walk, h.os]
    conv => lhs; rw [h.eq]
    rw [found_append l1, foundS, found_append h.blk.length]
  unfold underS
  rw [e]
  have f0 : foundS id x.id false A oa = false := by
    cases hf : foundS id x.id false A oa with
    | false => rfl
    | true => exact absurd (no _ _ _ n5 hf) (by simp)
  have f1 : (if x.id = id then decide (x.id = nilS ∨ x.id ∈ sq) else foundS id x.id false A oa) = false := by
    split
    · simp [hx, q1]
    · exact f0
  rw [f1]
  constructor
  · rintro ⟨_, hf⟩
    have hf := no _ _ _ n6 hf
    refine Classical.byContradiction fun hid => ?_
    rw [found_absent hid] at hf
    cases hf
  · intro hid
    refine ⟨hT.valid hl, ?_⟩
    have hidC : id ∉ ids C := fun hm => (List.nodup_append.1 n4).2.2 _ hid _ hm rfl
    rw [found_absent hidC]
    have yes : ∀ (L : List Item) (ol : List (List Bs)) (f : Bool), ol.length = L.length → (∀ o ∈ ol, x.id ∈ o) → (id ∈ ids L ∨ f = true) → foundS id x.id f L ol = true := by
      intro L
      induction L with
      | nil =>
        intro ol f _ _ hf
        rcases hf with h | h
        · simp at h
        · cases ol <;> exact h
      | cons y L ih =>
        intro ol f hlen hol hf
        cases ol with
        | nil => simp at hlen
        | cons o ol =>
          refine ih ol _ (by simpa using hlen) (fun o' ho' => hol o' (.tail _ ho')) ?_
          by_cases hy : y.id = id
          · right
            rw [if_pos hy]
            simp [hol o (.head _)]
          · rw [if_neg hy]
            rcases hf with h | h
            · rw [ids_cons, List.mem_cons] at h
              rcases h with h | h
              · exact absurd h.symm hy
              · exact .inl h
            · exact .inr h
    exact yes B ob _ h.blk.length (fun o ho => (h.blk.pre o ho).subset (by simp)) (.inl hid)
end Go.Av

namespace Go.Av
/-! ### where an Id stands -/
theorem findS_at {A R : List Item} {x : Item} (h : x.id ∉ ids A) : findS x.id (A ++ x :: R) = A.length := by
  induction A with
  | nil => simp [findS]
  | cons a A ih =>
    simp only [ids_cons,List.mem_cons,not_or] at h
    have e : ¬ a.id = x.id := fun e => h.1 e.symm
    simp only [List.cons_append, findS, e, if_false, ih h.2, List.length_cons]
    rw [if_neg (by omega)]
    push_cast
    rfl
theorem findS_mem {l : List Item} {id : Bs} : 0 ≤ findS id l ↔ id ∈ ids l := by
  constructor
  · intro h
    obtain ⟨n, hn⟩ : ∃ n : Nat, findS id l = n := ⟨(findS id l).toNat, by omega⟩
    obtain ⟨a, ha, hb⟩ := findS_find l id n hn
    have hm := List.mem_of_getElem? ha
    have : a.id = id := by
      rw [← hb]
      unfold itemAt at hb ⊢
      cases hf : l.find? (fun x => decide (x.id = id)) with
      | none =>
        rw [List.find?_eq_none] at hf
        exfalso
        have hneg : ∀ (l : List Item), (∀ x ∈ l, ¬ (decide (x.id = id)) = true) → findS id l = -1 := fun l hl => findS_none l id fun j hj => by simpa using hl _ (List.getElem_mem hj)
        rw [hneg l hf] at hn
        omega
      | some x => simpa using List.find?_some hf
    exact mem_ids.2 ⟨a, hm, this⟩
  · intro h
    rcases findS_range l id with h1 | ⟨p, h1, _⟩
    · exfalso
      obtain ⟨A, x, R, hl, hx, hA⟩ : ∃ A x R, l = A ++ x :: R ∧ x.id = id ∧ id ∉ ids A := by
        clear h1
        induction l with
        | nil => simp at h
        | cons y l ih =>
          by_cases hy : y.id = id
          · exact ⟨[], y, l, rfl, hy, by simp⟩
          · rw [ids_cons, List.mem_cons] at h
            obtain ⟨A, x, R, rfl, hx, hA⟩ := ih (h.resolve_left fun e => hy e.symm)
            exact ⟨y :: A, x, R, rfl, hx, by
              rw [ids_cons, List.mem_cons, not_or]
              exact ⟨fun e => hy e.symm, hA⟩⟩
      subst hl hx
      rw [findS_at hA] at h1
      omega
    · omega
theorem mem_split {l : List Item} {id : Bs} (h : id ∈ ids l) : ∃ A x R, l = A ++ x :: R ∧ x.id = id ∧ id ∉ ids A := by
  induction l with
  | nil => simp at h
  | cons y l ih =>
    by_cases hy : y.id = id
    · exact ⟨[], y, l, rfl, hy, by simp⟩
    · rw [ids_cons, List.mem_cons] at h
      obtain ⟨A, x, R, rfl, hx, hA⟩ := ih (h.resolve_left fun e => hy e.symm)
      exact ⟨y :: A, x, R, rfl, hx, by
        rw [ids_cons, List.mem_cons, not_or]
        exact ⟨fun e => hy e.symm, hA⟩⟩
theorem itemAt_at {A R : List Item} {x : Item} (h : x.id ∉ ids A) : itemAt (A ++ x :: R) x.id = x := by
  obtain ⟨a, ha, hb⟩ := findS_find _ _ _ (findS_at (R := R) h)
  rw [hb]
  simp at ha
  exact ha.symm
theorem itemAt_none {l : List Item} {id : Bs} (h : id ∉ ids l) : itemAt l id = noItem := findS_neg (by
  have h2 : ¬ 0 ≤ findS id l := fun h1 => h (findS_mem.1 h1)
  omega)
theorem Tree.kind {l : List Item} {os : List (List Bs)} (h : Tree l os) {x : Item} (hx : x ∈ l) : x.kind = 1 ∨ x.kind = 2 := by
  rcases (h.proper x hx).2.2 with h | h
  · exact .inl h.1
  · exact .inr h.1
theorem itemAt_kind {l : List Item} {os : List (List Bs)} (h : Tree l os) {id : Bs} : (itemAt l id).kind ≠ 0 ↔ id ∈ ids l := by
  constructor
  · intro hk
    refine Classical.byContradiction fun hn => hk ?_
    rw [itemAt_none hn]; rfl
  · intro hm
    obtain ⟨A, x, R, rfl, rfl, hA⟩ := mem_split hm
    rw [itemAt_at hA]
    rcases h.kind (x := x) (by simp) with h | h <;> omega
theorem Tree.pos {l : List Item} {os : List (List Bs)} (h : Tree l os) {A R : List Item} {x : Item} (e : l = A ++ x :: R) : x.id ∉ ids A ∧ x.id ∉ ids R := by
  have hn := h.nodup
  rw [e, ids_append, ids_cons] at hn
  obtain ⟨n1, n2, n3⟩ := List.nodup_append.1 hn
  rw [List.nodup_cons] at n2
  exact ⟨fun hm => n3 _ hm _ (.head _) rfl, n2.1⟩
theorem Tree.ne {l : List Item} {os : List (List Bs)} (h : Tree l os) {y : Bs} (hy : y ∈ ids l) : y ≠ nilS := by
  obtain ⟨x, hx, rfl⟩ := mem_ids.1 hy
  exact (h.proper x hx).ne
/-! ### places -/
theorem Ctx.par {s : List Bs} {p : Bs} {A C : List Item} {sq : List Bs} {q : Bs} {oa oc : List (List Bs)} (h : Ctx s p A C sq q oa oc) : q = p ∨ q ∈ ids A := by
  induction h with
  | here => exact .inl rfl
  | deep _ _ _ _ _ ih =>
    right
    rw [ids_append, ids_cons]
    rcases ih with rfl | h
    · simp
    · simp [h]
theorem Ctx.parK {s : List Bs} {p : Bs} {A C : List Item} {sq : List Bs} {q : Bs} {oa oc : List (List Bs)} (h : Ctx s p A C sq q oa oc) : q = p ∨ ∃ y ∈ A, y.id = q ∧ y.kind = 1 := by
  induction h with
  | here => exact .inl rfl
  | deep _ _ h3 _ _ ih =>
    right
    rcases ih with rfl | ⟨y, hy, h1, h2⟩
    · exact ⟨_, by simp, rfl, h3⟩
    · exact ⟨y, by simp [hy], h1, h2⟩
theorem Tree.item {l : List Item} {os : List (List Bs)} (h : Tree l os) {x : Item} (hx : x ∈ l) : itemAt l x.id = x := by
  obtain ⟨A, R, rfl⟩ := List.append_of_mem hx
  exact itemAt_at (h.pos rfl).1
theorem Ctx.behind {s : List Bs} {p : Bs} {A C : List Item} {sq : List Bs} {q : Bs} {oa oc : List (List Bs)} (h : Ctx s p A C sq q oa oc) {D : List Item} {od : List (List Bs)} (k : Opens sq q D od) : Ctx s p (A ++ D) C sq q (oa ++ od) oc := by
  induction h with
  | here h1 h2 => exact .here (h1.append k) h2
  | deep h1 h2 h3 h4 h5 ih =>
    have := Ctx.deep h1 h2 h3 (ih k) h5
    simpa using this
theorem Ctx.into {s : List Bs} {p : Bs} {A C : List Item} {sq : List Bs} {q : Bs} {oa oc : List (List Bs)} (h : Ctx s p A C sq q oa oc) {y : Item} {B1 B2 : List Item} {o1 o2 : List (List Bs)} (hy : y.parent = q) (hk : y.kind = 1) (h1 : Opens (sq ++ [y.id]) y.id B1 o1) (h2 : Opens (sq ++ [y.id]) y.id B2 o2) : Ctx s p (A ++ y :: B1) (B2 ++ C) (sq ++ [y.id]) y.id (oa ++ sq :: o1) (o2 ++ oc) := by
  induction h with
  | here k1 k2 => exact .deep k1 hy hk (.here h1 h2) k2
  | deep k1 k2 k3 k4 k5 ih =>
    have := Ctx.deep k1 k2 k3 (ih hy h1 h2) k5
    simpa using this
/-- The last of the items with a parent. -/
def lastKid (q : Bs) (A : List Item) : Bs := A.foldl (fun r x => if x.parent = q then x.id else r) nilS
theorem lastKid_app (q : Bs) (A D : List Item) (h : ∀ y ∈ D, y.parent ≠ q) : lastKid q (A ++ D) = lastKid q A := by
  unfold lastKid
  rw [List.foldl_append]
  generalize A.foldl _ nilS = r
  induction D generalizing r with
  | nil => rfl
  | cons y D ih =>
    rw [List.foldl_cons, if_neg (h y (.head _))]
    exact ih (fun z hz => h z (.tail _ hz)) _
theorem lastKid_snoc (q : Bs) (A : List Item) (x : Item) (h : x.parent = q) : lastKid q (A ++ [x]) = x.id := by
  unfold lastKid
  rw [List.foldl_append]
  simp [h]
theorem lastKid_none (q : Bs) (A : List Item) (h : ∀ y ∈ A, y.parent ≠ q) : lastKid q A = nilS := by
  have := lastKid_app q [] A h
  simpa [lastKid] using this
/-- Parents stand ahead. -/
theorem Tree.ahead {l : List Item} {os : List (List Bs)} (h : Tree l os) {A R : List Item} {x : Item} (e : l = A ++ x :: R) : x.parent = nilS ∨ x.parent ∈ ids A := by
  obtain ⟨B, C, sq, oa, ob, oc, _, k⟩ := h.at e
  exact k.ctx.par
def placeAt (l : List Item) (q a : Bs) : Nat := if a ≠ nilS then (findS a l).toNat + (1 + (belowS l a).length) else if q ≠ nilS then (findS q l).toNat + 1 else 0
/-- The place exists. -/
def HasPlace (l : List Item) (q a : Bs) : Prop := (q = nilS ∨ (itemAt l q).kind = 1) ∧ (a = nilS ∨ (itemAt l a).kind ≠ 0 ∧ (itemAt l a).parent = q)
instance (l : List Item) (q a : Bs) : Decidable (HasPlace l q a) := inferInstanceAs (Decidable (_ ∧ _))
/-- A place in a valid code. -/
structure Place (l : List Item) (q a : Bs) (A C : List Item) (sq : List Bs) (oa oc : List (List Bs)) : Prop where
  eq : l = A ++ C
  ctx : Ctx [] nilS A C sq q oa oc
  at' : placeAt l q a = A.length
  last : lastKid q A = a
theorem At.noKid {l A B C : List Item} {x : Item} {os : List (List Bs)} {sq : List Bs} {oa ob oc : List (List Bs)} (h : At l A x B C os sq oa ob oc) (hT : Tree l os) : ∀ y ∈ B, y.parent ≠ x.parent := by
  intro y hy e
  have hA : x.parent = nilS ∨ x.parent ∈ ids A := h.ctx.par
  have hn := hT.nodup
  rw [h.eq] at hn
  simp only [ids_append,ids_cons] at hn
  obtain ⟨n1, n2, n3⟩ := List.nodup_append.1 hn
  rcases h.blk.par y hy with k | k <;> rw [e] at k
  · rcases hA with h1 | h1
    · have := (hT.proper x (by rw [h.eq]; simp)).ne
      rw [← k, h1] at this
      exact this rfl
    · rw [k] at h1
      exact n3 _ h1 _ (.head _) rfl
  · rcases hA with h1 | h1
    · rw [h1] at k
      exact hT.ne (by rw [h.eq]; simp [k]) rfl
    · exact n3 _ h1 _ (by simp [k]) rfl
theorem Tree.noKid {l : List Item} {os : List (List Bs)} (h : Tree l os) {A R : List Item} {y : Item} (e : l = A ++ y :: R) : ∀ z ∈ A ++ [y], z.parent ≠ y.id := by
  obtain ⟨p1, p2⟩ := h.pos e
  have hy : y.id ≠ nilS := (h.proper y (by rw [e]; simp)).ne
  intro z hz hzy
  rcases List.mem_append.1 hz with hz | hz
  · obtain ⟨A1, A2, rfl⟩ := List.append_of_mem hz
    rcases h.ahead (A := A1) (x := z) (R := A2 ++ y :: R) (by rw [e]; simp) with k | k
    · exact hy (hzy ▸ k)
    · rw [hzy] at k
      exact p1 (by simp [k])
  · obtain rfl := List.mem_singleton.1 hz
    rcases h.ahead e with k | k
    · exact hy (hzy ▸ k)
    · rw [hzy] at k
      exact p1 k
theorem At.place {l A B C : List Item} {x : Item} {os : List (List Bs)} {sq : List Bs} {oa ob oc : List (List Bs)} (h : At l A x B C os sq oa ob oc) (hT : Tree l os) (hl : l.length ≤ 2000) : Place l x.parent x.id (A ++ x :: B) C sq (oa ++ sq :: ob) oc := by
  have hx : x.id ≠ nilS := (hT.proper x (by rw [h.eq]; simp)).ne
  have hpos := (hT.pos h.eq).1
  refine ⟨by rw [h.eq]; simp, ?_, ?_, ?_⟩
  · have := h.ctx.behind (Opens.cons rfl h.blk h.leaf (.nil _ _))
    simpa using this
  · rw [placeAt, if_pos hx, h.below hT hl]
    conv => lhs; rw [h.eq]
    rw [findS_at hpos]
    simp [ids]
    omega
  · have : A ++ x :: B = (A ++ [x]) ++ B := by simp
    rw [this, lastKid_app _ _ _ (h.noKid hT), lastKid_snoc _ _ _ rfl]
theorem At.first {l A B C : List Item} {y : Item} {os : List (List Bs)} {sq : List Bs} {oa ob oc : List (List Bs)} (h : At l A y B C os sq oa ob oc) (hT : Tree l os) (hk : y.kind = 1) : Place l y.id nilS (A ++ [y]) (B ++ C) (sq ++ [y.id]) (oa ++ [sq]) (ob ++ oc) := by
  have hy : y.id ≠ nilS := (hT.proper y (by rw [h.eq]; simp)).ne
  have hpos := (hT.pos h.eq).1
  refine ⟨by rw [h.eq]; simp, h.ctx.into rfl hk (.nil _ _) h.blk, ?_, lastKid_none _ _ (hT.noKid h.eq)⟩
  rw [placeAt, if_neg (by simp), if_pos hy]
  conv => lhs; rw [h.eq]
  rw [findS_at hpos]
  simp
theorem Tree.start {l : List Item} {os : List (List Bs)} (h : Tree l os) : Place l nilS nilS [] l [] [] os :=
  ⟨rfl, .here (.nil _ _) h.opens, by simp [placeAt], rfl⟩
theorem Tree.place {l : List Item} {os : List (List Bs)} (h : Tree l os) (hl : l.length ≤ 2000) {q a : Bs} (hp : HasPlace l q a) : ∃ A C sq oa oc, Place l q a A C sq oa oc := by
  obtain ⟨hq, ha⟩ := hp
  by_cases h0 : a = nilS
  · subst h0
    by_cases h1 : q = nilS
    · subst h1; exact ⟨_, _, _, _, _, h.start⟩
    · have hk := hq.resolve_left h1
      have hm : q ∈ ids l := (itemAt_kind h).1 (by omega)
      obtain ⟨A, y, R, e, rfl, hA⟩ := mem_split hm
      obtain ⟨B, C, sq, oa, ob, oc, rfl, k⟩ := h.at e
      rw [e, itemAt_at hA] at hk
      exact ⟨_, _, _, _, _, k.first h hk⟩
  · obtain ⟨hk, hpar⟩ := ha.resolve_left h0
    have hm := (itemAt_kind h).1 hk
    obtain ⟨A, x, R, e, rfl, hA⟩ := mem_split hm
    obtain ⟨B, C, sq, oa, ob, oc, rfl, k⟩ := h.at e
    rw [e, itemAt_at hA] at hpar
    subst hpar
    exact ⟨_, _, _, _, _, k.place h hl⟩
theorem Opens.lastTree {s : List Bs} {p : Bs} {l : List Item} {os : List (List Bs)} (h : Opens s p l os) : l ≠ [] → ∃ E z Bz oe oz, l = E ++ z :: Bz ∧ z.parent = p ∧ Opens s p E oe ∧ Opens (s ++ [z.id]) z.id Bz oz ∧ (Bz = [] ∨ z.kind = 1) ∧ os = oe ++ s :: oz := by
  induction h with
  | nil => intro h; exact absurd rfl h
  | @cons s p x B C ob oc h1 h2 h3 h4 _ i2 =>
    intro _
    by_cases hC : C = []
    · subst hC
      cases h4
      exact ⟨[], x, B, [], ob, by simp, h1, .nil _ _, h2, h3, by simp⟩
    · obtain ⟨E, z, Bz, oe, oz, rfl, k1, k2, k3, k4, rfl⟩ := i2 hC
      exact ⟨x :: (B ++ E), z, Bz, s :: (ob ++ oe), oz, by simp, k1, .cons h1 h2 h3 k2, k3, k4, by simp⟩
/-- What stands ahead of a place. -/
theorem Ctx.last {s : List Bs} {p : Bs} {A C : List Item} {sq : List Bs} {q : Bs} {oa oc : List (List Bs)} (h : Ctx s p A C sq q oa oc) :
    (A = [] ∧ q = p) ∨ (∃ D y, A = D ++ [y] ∧ y.id = q ∧ y.kind = 1) ∨ (∃ E z Bz oe oz, A = E ++ z :: Bz ∧ z.parent = q ∧ Ctx s p E C sq q oe oc ∧ Opens (sq ++ [z.id]) z.id Bz oz ∧ (Bz = [] ∨ z.kind = 1) ∧ oa = oe ++ sq :: oz) := by
  induction h with
  | @here s p A C oa oc h1 h2 =>
    by_cases hA : A = []
    · exact .inl ⟨hA, rfl⟩
    · obtain ⟨E, z, Bz, oe, oz, e, k1, k2, k3, k4, k5⟩ := h1.lastTree hA
      exact .inr (.inr ⟨E, z, Bz, oe, oz, e, k1, .here k2 h2, k3, k4, k5⟩)
  | @deep s p A0 A1 C1 C0 x sq q o0 o1 p1 p0 h1 h2 h3 h4 h5 ih =>
    rcases ih with ⟨rfl, rfl⟩ | ⟨D, y, rfl, k1, k2⟩ | ⟨E, z, Bz, oe, oz, rfl, k1, k2, k3, k4, rfl⟩
    · exact .inr (.inl ⟨A0, x, rfl, rfl, h3⟩)
    · exact .inr (.inl ⟨A0 ++ x :: D, y, by simp, k1, k2⟩)
    · exact .inr (.inr ⟨A0 ++ x :: E, z, Bz, o0 ++ s :: oe, oz, by simp, k1, .deep h1 h2 h3 k2 h5, k3, k4, by simp⟩)
/-- A place is found by its parent and by the last child that stands ahead of it. -/
theorem Ctx.found {A C : List Item} {sq : List Bs} {q : Bs} {oa oc : List (List Bs)} (h : Ctx [] nilS A C sq q oa oc) {os : List (List Bs)} (hT : Tree (A ++ C) os) (hl : (A ++ C).length ≤ 2000) : Place (A ++ C) q (lastKid q A) A C sq oa oc ∧ HasPlace (A ++ C) q (lastKid q A) := by
  have hos : os = oa ++ oc := by
    have h1 := hT.walk
    have h2 : Tree (A ++ C) (oa ++ oc) := ⟨hT.proper, hT.nodup, by simpa using h.plug (.nil _ _)⟩
    rw [h2.walk] at h1
    injection h1 with h1
    exact h1.symm
  subst hos
  rcases h.last with ⟨rfl, rfl⟩ | ⟨D, y, rfl, rfl, hk⟩ | ⟨E, z, Bz, oe, oz, rfl, rfl, k2, k3, k4, rfl⟩
  · exact ⟨⟨rfl, h, by simp [lastKid, placeAt], rfl⟩, .inl rfl, .inl rfl⟩
  · have e : D ++ [y] ++ C = D ++ y :: C := by simp
    have hno := hT.noKid e
    have hpos := (hT.pos e).1
    have hy : y.id ≠ nilS := (hT.proper y (by simp)).ne
    rw [lastKid_none _ _ hno]
    refine ⟨⟨rfl, h, ?_, lastKid_none _ _ hno⟩, .inr ?_, .inl rfl⟩
    · rw [placeAt, if_neg (by simp), if_pos hy, e, findS_at hpos]
      simp
    · rw [e, itemAt_at hpos, hk]
  · have hat : At (E ++ z :: Bz ++ C) E z Bz C (oe ++ sq :: oz ++ oc) sq oe oz oc := ⟨by simp, by simp, k2, k3, k4⟩
    have hp := hat.place hT hl
    have e : E ++ z :: Bz ++ C = E ++ z :: (Bz ++ C) := by simp
    have hpos := (hT.pos e).1
    have hz : z.id ≠ nilS := (hT.proper z (by simp)).ne
    have hlast : lastKid z.parent (E ++ z :: Bz) = z.id := hp.last
    rw [hlast]
    refine ⟨hp, ?_, .inr ⟨?_, ?_⟩⟩
    · rcases k2.parK with h0 | ⟨y, hy, h0, hk⟩
      · exact .inl h0
      · right
        rw [← h0, hT.item (by simp [hy]), hk]
    · rw [e, itemAt_at hpos]
      rcases hT.kind (x := z) (by simp) with h | h <;> omega
    · rw [e, itemAt_at hpos]
end Go.Av
