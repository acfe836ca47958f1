/- OWN TOOL'S PRINT (AvMain.lean, gendefs.py): functions of the program without types. -/
import Derived.Test.YtinmcbkebfgekaaAv23
set_option linter.all false
namespace Go.Av
/-- 0 pandect/pandectlaw29.HistoryOrders -/
def l_pandectlaw29_HistoryOrders_0 : ACode := (.seq (.seq (.region [⟨(some 80), .mov (.tmp 13), none⟩,
         ⟨(some 81), .mov (.tmp 8), none⟩,
         ⟨(some 82), .len (.tmp 81), none⟩,
         ⟨(some 83), .bin .lss (.tmp 80) (.tmp 82), none⟩])
       (.cond (.tmp 83)
         .skip
         (.exit 4)))
       (.seq (.block 5 (.draw [⟨(some 86), .mov (.tmp 12), none⟩,
          ⟨(some 87), .mov (.tmp 86), none⟩,
          ⟨(some 88), .mov (.tmp 8), (some (87, false))⟩,
          ⟨(some 89), .mov (.tmp 13), (some (87, false))⟩,
          ⟨(some 90), .iaddr 49 (.tmp 88) (.tmp 89), (some (87, false))⟩,
          ⟨(some 91), .load true 49 (.tmp 90), (some (87, false))⟩,
          ⟨(some 92), .mov (.tmp 0), (some (87, false))⟩,
          ⟨(some 93), .mov (.tmp 11), (some (87, false))⟩,
          ⟨(some 94), .iaddr 49 (.tmp 92) (.tmp 93), (some (87, false))⟩,
          ⟨(some 95), .load true 49 (.tmp 94), (some (87, false))⟩,
          ⟨(some 96), .call 9 [(.tmp 91), (.tmp 95)], (some (87, false))⟩,
          ⟨(some 97), .pick (.tmp 87) (.const (.bool true)) (.tmp 96), none⟩,
          ⟨(some 12), .mov (.tmp 97), none⟩] [[], [0], [0, 1], [0, 1], [0, 1, 3, 2], [2, 3, 0, 1, 4], [0, 1], [0, 1], [0, 1, 7, 6], [6, 7, 0, 1, 8], [8, 7, 6, 4, 0, 3, 2, 1, 9, 5], [5, 9, 2, 3, 4, 6, 7, 8, 0, 10, 1], [9, 8, 7, 6, 5, 4, 3, 2, 1, 0, 10, 11]]))
       (.region [⟨(some 84), .mov (.tmp 13), none⟩,
         ⟨(some 85), .bin .add (.tmp 84) (.const (.int .i64 1)), none⟩,
         ⟨(some 13), .mov (.tmp 85), none⟩])))
def l_pandectlaw29_HistoryOrders_1 : ACode := (.seq (.seq (.region [⟨(some 58), .mov (.tmp 11), none⟩,
      ⟨(some 59), .mov (.tmp 0), none⟩,
      ⟨(some 60), .len (.tmp 59), none⟩,
      ⟨(some 61), .bin .lss (.tmp 58) (.tmp 60), none⟩])
    (.cond (.tmp 61)
      .skip
      (.exit 2)))
    (.seq (.block 3 (.seq (.seq (.region [⟨(some 64), .mov (.tmp 7), none⟩,
       ⟨(some 65), .mov (.tmp 11), none⟩,
       ⟨(some 66), .iaddr 1 (.tmp 64) (.tmp 65), none⟩,
       ⟨(some 67), .load false 1 (.tmp 66), none⟩,
       ⟨(some 68), .bin .neq (.tmp 67) (.const (.int .i64 0)), none⟩,
       ⟨(some 69), .mov (.tmp 68), none⟩,
       ⟨(some 70), .mov (.tmp 0), (some (69, false))⟩,
       ⟨(some 71), .mov (.tmp 11), (some (69, false))⟩,
       ⟨(some 72), .iaddr 49 (.tmp 70) (.tmp 71), (some (69, false))⟩,
       ⟨(some 73), .faddr 0 (.tmp 72), (some (69, false))⟩,
       ⟨(some 74), .load false 1 (.tmp 73), (some (69, false))⟩,
       ⟨(some 75), .mov (.tmp 1), (some (69, false))⟩,
       ⟨(some 76), .bin .gtr (.tmp 74) (.tmp 75), (some (69, false))⟩,
       ⟨(some 77), .pick (.tmp 69) (.const (.bool true)) (.tmp 76), none⟩])
     (.cond (.tmp 77)
       (.exit 3)
       .skip))
     (.seq (.region [⟨(some 78), .mov (.tmp 10), none⟩,
       ⟨(some 79), .bin .add (.tmp 78) (.const (.int .i64 1)), none⟩,
       ⟨(some 10), .mov (.tmp 79), none⟩])
     (.seq (.region [⟨(some 12), .mov (.const (.bool false)), none⟩])
     (.seq (.seq (.region [⟨(some 13), .mov (.const (.int .i64 0)), none⟩])
     (.block 4 (.loop l_pandectlaw29_HistoryOrders_0)))
     (.seq (.region [⟨(some 98), .mov (.tmp 12), none⟩,
       ⟨(some 99), .un .not (.tmp 98), none⟩])
     (.cond (.tmp 99)
       (.seq (.region [⟨(some 4), .mov (.const (.bool false)), none⟩])
       .ret)
       .skip)))))))
    (.region [⟨(some 62), .mov (.tmp 11), none⟩,
      ⟨(some 63), .bin .add (.tmp 62) (.const (.int .i64 1)), none⟩,
      ⟨(some 11), .mov (.tmp 63), none⟩])))
def l_pandectlaw29_HistoryOrders_2 : ACode := (.seq (.seq (.region [⟨(some 27), .mov (.tmp 9), none⟩,
      ⟨(some 28), .mov (.tmp 8), none⟩,
      ⟨(some 29), .len (.tmp 28), none⟩,
      ⟨(some 30), .bin .lss (.tmp 27) (.tmp 29), none⟩])
    (.cond (.tmp 30)
      .skip
      (.exit 0)))
    (.seq (.block 1 (.seq (.draw [⟨(some 33), .mov (.tmp 8), none⟩,
       ⟨(some 34), .mov (.tmp 9), none⟩,
       ⟨(some 35), .iaddr 49 (.tmp 33) (.tmp 34), none⟩,
       ⟨(some 36), .faddr 0 (.tmp 35), none⟩,
       ⟨(some 37), .load false 1 (.tmp 36), none⟩,
       ⟨(some 38), .mov (.tmp 1), none⟩,
       ⟨(some 39), .bin .gtr (.tmp 37) (.tmp 38), none⟩,
       ⟨(some 40), .mov (.tmp 39), none⟩,
       ⟨(some 41), .mov (.tmp 9), (some (40, false))⟩,
       ⟨(some 42), .bin .gtr (.tmp 41) (.const (.int .i64 0)), (some (40, false))⟩,
       ⟨(some 43), .mov (.tmp 42), (some (40, false))⟩,
       ⟨(some 44), .mov (.tmp 6), (some (43, true))⟩,
       ⟨(some 45), .mov (.tmp 8), (some (43, true))⟩,
       ⟨(some 46), .mov (.tmp 9), (some (43, true))⟩,
       ⟨(some 47), .bin .sub (.tmp 46) (.const (.int .i64 1)), (some (43, true))⟩,
       ⟨(some 48), .iaddr 49 (.tmp 45) (.tmp 47), (some (43, true))⟩,
       ⟨(some 49), .load true 49 (.tmp 48), (some (43, true))⟩,
       ⟨(some 50), .mov (.tmp 8), (some (43, true))⟩,
       ⟨(some 51), .mov (.tmp 9), (some (43, true))⟩,
       ⟨(some 52), .iaddr 49 (.tmp 50) (.tmp 51), (some (43, true))⟩,
       ⟨(some 53), .load true 49 (.tmp 52), (some (43, true))⟩,
       ⟨(some 54), .call 8 [(.tmp 44), (.tmp 49), (.tmp 53)], (some (43, true))⟩,
       ⟨(some 55), .bin .neq (.tmp 54) (.const (.int .i64 (-1))), (some (43, true))⟩,
       ⟨(some 56), .pick (.tmp 43) (.tmp 55) (.const (.bool false)), (some (40, false))⟩,
       ⟨(some 57), .pick (.tmp 40) (.const (.bool true)) (.tmp 56), none⟩] [[], [], [1, 0], [0, 1, 2], [2, 1, 0, 3], [], [3, 0, 1, 2, 5, 4], [4, 5, 2, 1, 0, 3, 6], [6, 3, 0, 1, 2, 5, 4, 7], [4, 5, 2, 1, 0, 3, 6, 7, 8], [8, 6, 3, 0, 1, 2, 5, 4, 7, 9], [9, 7, 4, 5, 2, 1, 0, 3, 6, 8, 10], [9, 7, 4, 5, 2, 1, 0, 3, 6, 8, 10], [9, 7, 4, 5, 2, 1, 0, 3, 6, 8, 10], [8, 6, 3, 0, 1, 2, 5, 4, 7, 9, 10, 13], [13, 8, 6, 3, 0, 1, 2, 5, 4, 7, 9, 10, 14, 12], [12, 14, 9, 7, 4, 5, 2, 1, 0, 3, 6, 8, 13, 10, 15], [9, 7, 4, 5, 2, 1, 0, 3, 6, 8, 10], [9, 7, 4, 5, 2, 1, 0, 3, 6, 8, 10], [8, 6, 3, 0, 1, 2, 5, 4, 7, 9, 10, 18, 17], [17, 18, 9, 7, 4, 5, 2, 1, 0, 3, 6, 8, 10, 19], [19, 18, 17, 15, 13, 14, 12, 8, 6, 3, 0, 1, 2, 5, 4, 7, 9, 10, 20, 16, 11], [11, 16, 20, 9, 7, 4, 5, 2, 1, 0, 3, 6, 8, 12, 14, 13, 15, 17, 18, 19, 10, 21], [21, 19, 18, 17, 15, 13, 14, 12, 20, 16, 11, 9, 4, 5, 2, 1, 0, 3, 6, 8, 7, 22, 10], [10, 22, 8, 9, 11, 16, 20, 12, 14, 13, 15, 17, 18, 19, 21, 6, 3, 0, 1, 2, 5, 4, 23, 7]])
     (.cond (.tmp 57)
       (.seq (.region [⟨(some 4), .mov (.const (.bool false)), none⟩])
       .ret)
       .skip)))
    (.region [⟨(some 31), .mov (.tmp 9), none⟩,
      ⟨(some 32), .bin .add (.tmp 31) (.const (.int .i64 1)), none⟩,
      ⟨(some 9), .mov (.tmp 32), none⟩])))
def b_pandectlaw29_HistoryOrders : ACode := (.seq (.region [⟨(some 4), .mov (.const (.bool false)), none⟩])
  (.seq (.region [⟨(some 14), .call 5 [], none⟩,
    ⟨(some 5), .mov (.tmp 14), none⟩])
  (.seq (.seq (.region [⟨(some 15), .mov (.tmp 0), none⟩,
    ⟨(some 16), .len (.tmp 15), none⟩,
    ⟨(some 17), .bin .gtr (.tmp 16) (.const (.int .i64 60)), none⟩])
  (.cond (.tmp 17)
    (.seq (.region [⟨(some 18), .mov (.tmp 5), none⟩,
      ⟨(some 4), .mov (.tmp 18), none⟩])
    .ret)
    .skip))
  (.seq (.region [⟨(some 20), .mov (.tmp 0), none⟩,
    ⟨(some 21), .call 6 [(.tmp 20)], none⟩,
    ⟨(some 19), .mov (.tmp 21), none⟩,
    ⟨(some 22), .ext 0 (.tmp 19), none⟩,
    ⟨(some 23), .ext 1 (.tmp 19), none⟩,
    ⟨(some 6), .mov (.tmp 22), none⟩,
    ⟨(some 7), .mov (.tmp 23), none⟩])
  (.seq (.region [⟨(some 24), .mov (.tmp 6), none⟩,
    ⟨(some 25), .mov (.tmp 1), none⟩,
    ⟨(some 26), .call 7 [(.tmp 24), (.tmp 25)], none⟩,
    ⟨(some 8), .mov (.tmp 26), none⟩])
  (.seq (.seq (.region [⟨(some 9), .mov (.const (.int .i64 0)), none⟩])
  (.block 0 (.loop l_pandectlaw29_HistoryOrders_2)))
  (.seq (.region [⟨(some 10), .mov (.const (.int .i64 0)), none⟩])
  (.seq (.seq (.region [⟨(some 11), .mov (.const (.int .i64 0)), none⟩])
  (.block 2 (.loop l_pandectlaw29_HistoryOrders_1)))
  (.seq (.region [⟨(some 100), .mov (.tmp 5), none⟩,
    ⟨(some 101), .mov (.tmp 100), none⟩,
    ⟨(some 102), .mov (.tmp 10), (some (101, true))⟩,
    ⟨(some 103), .mov (.tmp 8), (some (101, true))⟩,
    ⟨(some 104), .len (.tmp 103), (some (101, true))⟩,
    ⟨(some 105), .bin .eql (.tmp 102) (.tmp 104), (some (101, true))⟩,
    ⟨(some 106), .pick (.tmp 101) (.tmp 105) (.const (.bool false)), none⟩,
    ⟨(some 4), .mov (.tmp 106), none⟩])
  .ret)))))))))
def c_pandectlaw29_HistoryOrders : AFun := ⟨107, b_pandectlaw29_HistoryOrders, [(4, none)]⟩
/-- 1 pandect/pandectlaw29.HistoryArrives -/
def l_pandectlaw29_HistoryArrives_0 : ACode := (.seq (.seq (.region [⟨(some 25), .mov (.tmp 9), none⟩,
      ⟨(some 26), .bin .geq (.tmp 25) (.const (.int .i64 0)), none⟩])
    (.cond (.tmp 26)
      .skip
      (.exit 0)))
    (.seq (.block 1 (.seq (.seq (.region [⟨(some 29), .mov (.tmp 7), none⟩,
       ⟨(some 30), .mov (.tmp 9), none⟩,
       ⟨(some 31), .iaddr 1 (.tmp 29) (.tmp 30), none⟩,
       ⟨(some 32), .load false 1 (.tmp 31), none⟩,
       ⟨(some 33), .bin .eql (.tmp 32) (.const (.int .i64 9)), none⟩])
     (.cond (.tmp 33)
       (.seq (.region [⟨(some 34), .mov (.tmp 5), none⟩,
         ⟨(some 4), .mov (.tmp 34), none⟩])
       .ret)
       .skip))
     (.region [⟨(some 35), .mov (.tmp 8), none⟩,
       ⟨(some 36), .mov (.tmp 0), none⟩,
       ⟨(some 37), .mov (.tmp 9), none⟩,
       ⟨(some 38), .iaddr 49 (.tmp 36) (.tmp 37), none⟩,
       ⟨(some 39), .load true 49 (.tmp 38), none⟩,
       ⟨(some 40), .bsl 49 [(.tmp 39)], none⟩,
       ⟨(some 41), .app 49 696 (.tmp 35) (.tmp 40), none⟩,
       ⟨(some 8), .mov (.tmp 41), none⟩])))
    (.region [⟨(some 27), .mov (.tmp 9), none⟩,
      ⟨(some 28), .bin .sub (.tmp 27) (.const (.int .i64 1)), none⟩,
      ⟨(some 9), .mov (.tmp 28), none⟩])))
def b_pandectlaw29_HistoryArrives : ACode := (.seq (.region [⟨(some 4), .mov (.const (.bool false)), none⟩])
  (.seq (.region [⟨(some 12), .call 5 [], none⟩,
    ⟨(some 5), .mov (.tmp 12), none⟩])
  (.seq (.seq (.region [⟨(some 13), .mov (.tmp 0), none⟩,
    ⟨(some 14), .len (.tmp 13), none⟩,
    ⟨(some 15), .bin .gtr (.tmp 14) (.const (.int .i64 60)), none⟩])
  (.cond (.tmp 15)
    (.seq (.region [⟨(some 16), .mov (.tmp 5), none⟩,
      ⟨(some 4), .mov (.tmp 16), none⟩])
    .ret)
    .skip))
  (.seq (.region [⟨(some 18), .mov (.tmp 0), none⟩,
    ⟨(some 19), .call 6 [(.tmp 18)], none⟩,
    ⟨(some 17), .mov (.tmp 19), none⟩,
    ⟨(some 20), .ext 0 (.tmp 17), none⟩,
    ⟨(some 21), .ext 1 (.tmp 17), none⟩,
    ⟨(some 6), .mov (.tmp 20), none⟩,
    ⟨(some 7), .mov (.tmp 21), none⟩])
  (.seq (.region [⟨(some 8), .mov (.const (.slice none 0 0)), none⟩])
  (.seq (.seq (.region [⟨(some 22), .mov (.tmp 0), none⟩,
    ⟨(some 23), .len (.tmp 22), none⟩,
    ⟨(some 24), .bin .sub (.tmp 23) (.const (.int .i64 1)), none⟩,
    ⟨(some 9), .mov (.tmp 24), none⟩])
  (.block 0 (.loop l_pandectlaw29_HistoryArrives_0)))
  (.seq (.region [⟨(some 43), .mov (.tmp 8), none⟩,
    ⟨(some 44), .call 6 [(.tmp 43)], none⟩,
    ⟨(some 42), .mov (.tmp 44), none⟩,
    ⟨(some 45), .ext 0 (.tmp 42), none⟩,
    ⟨(some 46), .ext 1 (.tmp 42), none⟩,
    ⟨(some 10), .mov (.tmp 45), none⟩,
    ⟨(some 11), .mov (.tmp 46), none⟩])
  (.seq (.region [⟨(some 47), .mov (.tmp 5), none⟩,
    ⟨(some 48), .mov (.tmp 47), none⟩,
    ⟨(some 49), .mov (.tmp 6), (some (48, true))⟩,
    ⟨(some 50), .mov (.tmp 1), (some (48, true))⟩,
    ⟨(some 51), .call 7 [(.tmp 49), (.tmp 50)], (some (48, true))⟩,
    ⟨(some 52), .mov (.tmp 10), (some (48, true))⟩,
    ⟨(some 53), .mov (.tmp 1), (some (48, true))⟩,
    ⟨(some 54), .call 7 [(.tmp 52), (.tmp 53)], (some (48, true))⟩,
    ⟨(some 55), .call 10 [(.tmp 51), (.tmp 54)], (some (48, true))⟩,
    ⟨(some 56), .pick (.tmp 48) (.tmp 55) (.const (.bool false)), none⟩,
    ⟨(some 4), .mov (.tmp 56), none⟩])
  .ret))))))))
def c_pandectlaw29_HistoryArrives : AFun := ⟨57, b_pandectlaw29_HistoryArrives, [(4, none)]⟩
/-- 2 pandect/pandectlaw29.HistoryLater -/
def l_pandectlaw29_HistoryLater_0 : ACode := (.seq (.seq (.region [⟨(some 36), .mov (.tmp 13), none⟩,
      ⟨(some 37), .mov (.tmp 0), none⟩,
      ⟨(some 38), .len (.tmp 37), none⟩,
      ⟨(some 39), .bin .lss (.tmp 36) (.tmp 38), none⟩])
    (.cond (.tmp 39)
      .skip
      (.exit 0)))
    (.seq (.block 1 (.seq (.region [⟨(some 42), .mov (.tmp 9), none⟩,
       ⟨(some 43), .mov (.tmp 13), none⟩,
       ⟨(some 44), .iaddr 1 (.tmp 42) (.tmp 43), none⟩,
       ⟨(some 45), .load false 1 (.tmp 44), none⟩,
       ⟨(some 46), .bin .eql (.tmp 45) (.const (.int .i64 0)), none⟩,
       ⟨(some 47), .mov (.tmp 46), none⟩,
       ⟨(some 48), .mov (.tmp 0), (some (47, true))⟩,
       ⟨(some 49), .mov (.tmp 13), (some (47, true))⟩,
       ⟨(some 50), .iaddr 49 (.tmp 48) (.tmp 49), (some (47, true))⟩,
       ⟨(some 51), .faddr 0 (.tmp 50), (some (47, true))⟩,
       ⟨(some 52), .load false 1 (.tmp 51), (some (47, true))⟩,
       ⟨(some 53), .mov (.tmp 1), (some (47, true))⟩,
       ⟨(some 54), .mov (.tmp 2), (some (47, true))⟩,
       ⟨(some 55), .mm false (.tmp 53) (.tmp 54), (some (47, true))⟩,
       ⟨(some 56), .bin .leq (.tmp 52) (.tmp 55), (some (47, true))⟩,
       ⟨(some 57), .pick (.tmp 47) (.tmp 56) (.const (.bool false)), none⟩])
     (.cond (.tmp 57)
       (.region [⟨(some 58), .mov (.tmp 12), none⟩,
         ⟨(some 59), .mov (.tmp 0), none⟩,
         ⟨(some 60), .mov (.tmp 13), none⟩,
         ⟨(some 61), .iaddr 49 (.tmp 59) (.tmp 60), none⟩,
         ⟨(some 62), .load true 49 (.tmp 61), none⟩,
         ⟨(some 63), .bsl 49 [(.tmp 62)], none⟩,
         ⟨(some 64), .app 49 696 (.tmp 58) (.tmp 63), none⟩,
         ⟨(some 12), .mov (.tmp 64), none⟩])
       .skip)))
    (.region [⟨(some 40), .mov (.tmp 13), none⟩,
      ⟨(some 41), .bin .add (.tmp 40) (.const (.int .i64 1)), none⟩,
      ⟨(some 13), .mov (.tmp 41), none⟩])))
def b_pandectlaw29_HistoryLater : ACode := (.seq (.region [⟨(some 6), .mov (.const (.bool false)), none⟩])
  (.seq (.region [⟨(some 16), .call 5 [], none⟩,
    ⟨(some 7), .mov (.tmp 16), none⟩])
  (.seq (.seq (.region [⟨(some 17), .mov (.tmp 0), none⟩,
    ⟨(some 18), .len (.tmp 17), none⟩,
    ⟨(some 19), .bin .gtr (.tmp 18) (.const (.int .i64 60)), none⟩])
  (.cond (.tmp 19)
    (.seq (.region [⟨(some 20), .mov (.tmp 7), none⟩,
      ⟨(some 6), .mov (.tmp 20), none⟩])
    .ret)
    .skip))
  (.seq (.region [⟨(some 22), .mov (.tmp 0), none⟩,
    ⟨(some 23), .call 6 [(.tmp 22)], none⟩,
    ⟨(some 21), .mov (.tmp 23), none⟩,
    ⟨(some 24), .ext 0 (.tmp 21), none⟩,
    ⟨(some 25), .ext 1 (.tmp 21), none⟩,
    ⟨(some 8), .mov (.tmp 24), none⟩,
    ⟨(some 9), .mov (.tmp 25), none⟩])
  (.seq (.region [⟨(some 26), .mov (.tmp 8), none⟩,
    ⟨(some 27), .mov (.tmp 1), none⟩,
    ⟨(some 28), .mov (.tmp 2), none⟩,
    ⟨(some 29), .mm false (.tmp 27) (.tmp 28), none⟩,
    ⟨(some 30), .call 7 [(.tmp 26), (.tmp 29)], none⟩,
    ⟨(some 10), .mov (.tmp 30), none⟩])
  (.seq (.region [⟨(some 31), .mov (.tmp 8), none⟩,
    ⟨(some 32), .mov (.tmp 1), none⟩,
    ⟨(some 33), .mov (.tmp 2), none⟩,
    ⟨(some 34), .mm true (.tmp 32) (.tmp 33), none⟩,
    ⟨(some 35), .call 7 [(.tmp 31), (.tmp 34)], none⟩,
    ⟨(some 11), .mov (.tmp 35), none⟩])
  (.seq (.region [⟨(some 12), .mov (.const (.slice none 0 0)), none⟩])
  (.seq (.seq (.region [⟨(some 13), .mov (.const (.int .i64 0)), none⟩])
  (.block 0 (.loop l_pandectlaw29_HistoryLater_0)))
  (.seq (.region [⟨(some 66), .mov (.tmp 12), none⟩,
    ⟨(some 67), .call 6 [(.tmp 66)], none⟩,
    ⟨(some 65), .mov (.tmp 67), none⟩,
    ⟨(some 68), .ext 0 (.tmp 65), none⟩,
    ⟨(some 69), .ext 1 (.tmp 65), none⟩,
    ⟨(some 14), .mov (.tmp 68), none⟩,
    ⟨(some 15), .mov (.tmp 69), none⟩])
  (.seq (.region [⟨(some 70), .mov (.tmp 7), none⟩,
    ⟨(some 71), .mov (.tmp 70), none⟩,
    ⟨(some 72), .mov (.tmp 10), (some (71, true))⟩,
    ⟨(some 73), .len (.tmp 72), (some (71, true))⟩,
    ⟨(some 74), .mov (.tmp 11), (some (71, true))⟩,
    ⟨(some 75), .len (.tmp 74), (some (71, true))⟩,
    ⟨(some 76), .bin .leq (.tmp 73) (.tmp 75), (some (71, true))⟩,
    ⟨(some 77), .pick (.tmp 71) (.tmp 76) (.const (.bool false)), none⟩,
    ⟨(some 78), .mov (.tmp 77), none⟩,
    ⟨(some 79), .mov (.tmp 10), (some (78, true))⟩,
    ⟨(some 80), .mov (.tmp 11), (some (78, true))⟩,
    ⟨(some 81), .mov (.tmp 10), (some (78, true))⟩,
    ⟨(some 82), .len (.tmp 81), (some (78, true))⟩,
    ⟨(some 83), .slc 49 (.tmp 80) none (some (.tmp 82)) none, (some (78, true))⟩,
    ⟨(some 84), .call 10 [(.tmp 79), (.tmp 83)], (some (78, true))⟩,
    ⟨(some 85), .pick (.tmp 78) (.tmp 84) (.const (.bool false)), none⟩,
    ⟨(some 86), .mov (.tmp 85), none⟩,
    ⟨(some 87), .mov (.tmp 10), (some (86, true))⟩,
    ⟨(some 88), .mov (.tmp 14), (some (86, true))⟩,
    ⟨(some 89), .mov (.tmp 1), (some (86, true))⟩,
    ⟨(some 90), .mov (.tmp 2), (some (86, true))⟩,
    ⟨(some 91), .mm true (.tmp 89) (.tmp 90), (some (86, true))⟩,
    ⟨(some 92), .call 7 [(.tmp 88), (.tmp 91)], (some (86, true))⟩,
    ⟨(some 93), .call 10 [(.tmp 87), (.tmp 92)], (some (86, true))⟩,
    ⟨(some 94), .pick (.tmp 86) (.tmp 93) (.const (.bool false)), none⟩,
    ⟨(some 6), .mov (.tmp 94), none⟩])
  .ret))))))))))
def c_pandectlaw29_HistoryLater : AFun := ⟨95, b_pandectlaw29_HistoryLater, [(6, none)]⟩
/-- 3 pandect/pandectlaw29.HistorySince -/
def b_pandectlaw29_HistorySince : ACode := (.seq (.region [⟨(some 4), .mov (.const (.bool false)), none⟩])
  (.seq (.region [⟨(some 10), .call 5 [], none⟩,
    ⟨(some 5), .mov (.tmp 10), none⟩])
  (.seq (.seq (.region [⟨(some 11), .mov (.tmp 0), none⟩,
    ⟨(some 12), .len (.tmp 11), none⟩,
    ⟨(some 13), .bin .gtr (.tmp 12) (.const (.int .i64 60)), none⟩])
  (.cond (.tmp 13)
    (.seq (.region [⟨(some 14), .mov (.tmp 5), none⟩,
      ⟨(some 4), .mov (.tmp 14), none⟩])
    .ret)
    .skip))
  (.seq (.region [⟨(some 16), .mov (.tmp 0), none⟩,
    ⟨(some 17), .call 6 [(.tmp 16)], none⟩,
    ⟨(some 15), .mov (.tmp 17), none⟩,
    ⟨(some 18), .ext 0 (.tmp 15), none⟩,
    ⟨(some 19), .ext 1 (.tmp 15), none⟩,
    ⟨(some 6), .mov (.tmp 18), none⟩,
    ⟨(some 7), .mov (.tmp 19), none⟩])
  (.seq (.region [⟨(some 21), .mov (.tmp 6), none⟩,
    ⟨(some 22), .mov (.tmp 1), none⟩,
    ⟨(some 23), .call 11 [(.tmp 21), (.tmp 22)], none⟩,
    ⟨(some 20), .mov (.tmp 23), none⟩,
    ⟨(some 24), .ext 0 (.tmp 20), none⟩,
    ⟨(some 25), .ext 1 (.tmp 20), none⟩,
    ⟨(some 8), .mov (.tmp 24), none⟩,
    ⟨(some 9), .mov (.tmp 25), none⟩])
  (.seq (.seq (.region [⟨(some 26), .mov (.tmp 9), none⟩,
    ⟨(some 27), .un .not (.tmp 26), none⟩])
  (.cond (.tmp 27)
    (.seq (.region [⟨(some 28), .mov (.tmp 5), none⟩,
      ⟨(some 29), .mov (.tmp 28), none⟩,
      ⟨(some 30), .mov (.tmp 8), (some (29, true))⟩,
      ⟨(some 31), .bin .eql (.tmp 30) (.const (.int .i64 0)), (some (29, true))⟩,
      ⟨(some 32), .pick (.tmp 29) (.tmp 31) (.const (.bool false)), none⟩,
      ⟨(some 33), .mov (.tmp 32), none⟩,
      ⟨(some 34), .mov (.tmp 6), (some (33, true))⟩,
      ⟨(some 35), .call 7 [(.tmp 34), (.const (.int .i64 1000000))], (some (33, true))⟩,
      ⟨(some 36), .mov (.tmp 1), (some (33, true))⟩,
      ⟨(some 37), .call 12 [(.tmp 35), (.tmp 36)], (some (33, true))⟩,
      ⟨(some 38), .un .not (.tmp 37), (some (33, true))⟩,
      ⟨(some 39), .pick (.tmp 33) (.tmp 38) (.const (.bool false)), none⟩,
      ⟨(some 4), .mov (.tmp 39), none⟩])
    .ret)
    .skip))
  (.seq (.region [⟨(some 40), .mov (.tmp 5), none⟩,
    ⟨(some 41), .mov (.tmp 40), none⟩,
    ⟨(some 42), .mov (.tmp 6), (some (41, true))⟩,
    ⟨(some 43), .mov (.tmp 8), (some (41, true))⟩,
    ⟨(some 44), .call 7 [(.tmp 42), (.tmp 43)], (some (41, true))⟩,
    ⟨(some 45), .mov (.tmp 1), (some (41, true))⟩,
    ⟨(some 46), .call 12 [(.tmp 44), (.tmp 45)], (some (41, true))⟩,
    ⟨(some 47), .pick (.tmp 41) (.tmp 46) (.const (.bool false)), none⟩,
    ⟨(some 48), .mov (.tmp 47), none⟩,
    ⟨(some 49), .mov (.tmp 6), (some (48, true))⟩,
    ⟨(some 50), .mov (.tmp 8), (some (48, true))⟩,
    ⟨(some 51), .bin .sub (.tmp 50) (.const (.int .i64 1)), (some (48, true))⟩,
    ⟨(some 52), .call 7 [(.tmp 49), (.tmp 51)], (some (48, true))⟩,
    ⟨(some 53), .mov (.tmp 1), (some (48, true))⟩,
    ⟨(some 54), .call 12 [(.tmp 52), (.tmp 53)], (some (48, true))⟩,
    ⟨(some 55), .un .not (.tmp 54), (some (48, true))⟩,
    ⟨(some 56), .pick (.tmp 48) (.tmp 55) (.const (.bool false)), none⟩,
    ⟨(some 4), .mov (.tmp 56), none⟩])
  .ret)))))))
def c_pandectlaw29_HistorySince : AFun := ⟨57, b_pandectlaw29_HistorySince, [(4, none)]⟩
/-- 4 pandect/pandectlaw29.HistoryRefuses -/
def l_pandectlaw29_HistoryRefuses_0 : ACode := (.seq (.seq (.region [⟨(some 33), .mov (.tmp 13), none⟩,
      ⟨(some 34), .mov (.tmp 0), none⟩,
      ⟨(some 35), .len (.tmp 34), none⟩,
      ⟨(some 36), .bin .lss (.tmp 33) (.tmp 35), none⟩])
    (.cond (.tmp 36)
      .skip
      (.exit 0)))
    (.seq (.block 1 (.draw [⟨(some 39), .mov (.tmp 12), none⟩,
       ⟨(some 40), .mov (.tmp 39), none⟩,
       ⟨(some 41), .mov (.tmp 9), (some (40, false))⟩,
       ⟨(some 42), .mov (.tmp 13), (some (40, false))⟩,
       ⟨(some 43), .iaddr 1 (.tmp 41) (.tmp 42), (some (40, false))⟩,
       ⟨(some 44), .load false 1 (.tmp 43), (some (40, false))⟩,
       ⟨(some 45), .bin .eql (.tmp 44) (.const (.int .i64 0)), (some (40, false))⟩,
       ⟨(some 46), .mov (.tmp 45), (some (40, false))⟩,
       ⟨(some 47), .mov (.tmp 0), (some (46, true))⟩,
       ⟨(some 48), .mov (.tmp 13), (some (46, true))⟩,
       ⟨(some 49), .iaddr 49 (.tmp 47) (.tmp 48), (some (46, true))⟩,
       ⟨(some 50), .faddr 1 (.tmp 49), (some (46, true))⟩,
       ⟨(some 51), .load false 1 (.tmp 50), (some (46, true))⟩,
       ⟨(some 52), .faddr 1 (.tmp 4), (some (46, true))⟩,
       ⟨(some 53), .load false 1 (.tmp 52), (some (46, true))⟩,
       ⟨(some 54), .bin .eql (.tmp 51) (.tmp 53), (some (46, true))⟩,
       ⟨(some 55), .pick (.tmp 46) (.tmp 54) (.const (.bool false)), (some (40, false))⟩,
       ⟨(some 56), .mov (.tmp 55), (some (40, false))⟩,
       ⟨(some 57), .mov (.tmp 0), (some (56, true))⟩,
       ⟨(some 58), .mov (.tmp 13), (some (56, true))⟩,
       ⟨(some 59), .iaddr 49 (.tmp 57) (.tmp 58), (some (56, true))⟩,
       ⟨(some 60), .faddr 2 (.tmp 59), (some (56, true))⟩,
       ⟨(some 61), .load false 1 (.tmp 60), (some (56, true))⟩,
       ⟨(some 62), .faddr 2 (.tmp 4), (some (56, true))⟩,
       ⟨(some 63), .load false 1 (.tmp 62), (some (56, true))⟩,
       ⟨(some 64), .bin .eql (.tmp 61) (.tmp 63), (some (56, true))⟩,
       ⟨(some 65), .pick (.tmp 56) (.tmp 64) (.const (.bool false)), (some (40, false))⟩,
       ⟨(some 66), .mov (.tmp 65), (some (40, false))⟩,
       ⟨(some 67), .mov (.tmp 0), (some (66, true))⟩,
       ⟨(some 68), .mov (.tmp 13), (some (66, true))⟩,
       ⟨(some 69), .iaddr 49 (.tmp 67) (.tmp 68), (some (66, true))⟩,
       ⟨(some 70), .faddr 3 (.tmp 69), (some (66, true))⟩,
       ⟨(some 71), .load false 1 (.tmp 70), (some (66, true))⟩,
       ⟨(some 72), .faddr 3 (.tmp 4), (some (66, true))⟩,
       ⟨(some 73), .load false 1 (.tmp 72), (some (66, true))⟩,
       ⟨(some 74), .bin .eql (.tmp 71) (.tmp 73), (some (66, true))⟩,
       ⟨(some 75), .pick (.tmp 66) (.tmp 74) (.const (.bool false)), (some (40, false))⟩,
       ⟨(some 76), .pick (.tmp 40) (.const (.bool true)) (.tmp 75), none⟩,
       ⟨(some 12), .mov (.tmp 76), none⟩] [[], [0], [0, 1], [0, 1], [0, 1, 3, 2], [2, 3, 0, 1, 4], [4, 0, 3, 2, 1, 5], [5, 2, 3, 0, 4, 1, 6], [6, 1, 4, 0, 3, 2, 5, 7], [6, 1, 4, 0, 3, 2, 5, 7], [5, 2, 3, 0, 4, 1, 6, 7, 9, 8], [8, 9, 6, 1, 4, 0, 3, 2, 5, 7, 10], [10, 5, 2, 3, 0, 4, 1, 6, 9, 8, 7, 11], [6, 1, 4, 0, 3, 2, 5, 7], [5, 2, 3, 0, 4, 1, 6, 7, 13], [13, 11, 8, 9, 6, 1, 4, 0, 3, 2, 5, 10, 7, 14, 12], [12, 14, 10, 9, 8, 11, 13, 6, 4, 0, 3, 2, 5, 1, 15, 7], [15, 5, 2, 3, 0, 4, 6, 13, 11, 8, 9, 10, 14, 12, 1, 7, 16], [16, 7, 1, 12, 14, 10, 9, 8, 11, 13, 6, 4, 0, 3, 2, 5, 15, 17], [16, 7, 1, 12, 14, 10, 9, 8, 11, 13, 6, 4, 0, 3, 2, 5, 15, 17], [15, 5, 2, 3, 0, 4, 6, 13, 11, 8, 9, 10, 14, 12, 1, 7, 16, 17, 19, 18], [18, 19, 16, 7, 1, 12, 14, 10, 9, 8, 11, 13, 6, 4, 0, 3, 2, 5, 15, 17, 20], [20, 15, 5, 2, 3, 0, 4, 6, 13, 11, 8, 9, 10, 14, 12, 1, 7, 16, 19, 18, 17, 21], [16, 7, 1, 12, 14, 10, 9, 8, 11, 13, 6, 4, 0, 3, 2, 5, 15, 17], [15, 5, 2, 3, 0, 4, 6, 13, 11, 8, 9, 10, 14, 12, 1, 7, 16, 17, 23], [23, 21, 18, 19, 16, 7, 1, 12, 14, 10, 9, 8, 11, 13, 6, 4, 0, 3, 2, 5, 15, 20, 17, 24, 22], [22, 24, 20, 19, 18, 21, 23, 16, 7, 12, 14, 10, 9, 8, 11, 13, 6, 4, 0, 3, 2, 5, 15, 1, 25, 17], [25, 15, 5, 2, 3, 0, 4, 6, 13, 11, 8, 9, 10, 14, 12, 7, 16, 23, 21, 18, 19, 20, 24, 22, 1, 17, 26], [26, 17, 1, 22, 24, 20, 19, 18, 21, 23, 16, 7, 12, 14, 10, 9, 8, 11, 13, 6, 4, 0, 3, 2, 5, 15, 25, 27], [26, 17, 1, 22, 24, 20, 19, 18, 21, 23, 16, 7, 12, 14, 10, 9, 8, 11, 13, 6, 4, 0, 3, 2, 5, 15, 25, 27], [25, 15, 5, 2, 3, 0, 4, 6, 13, 11, 8, 9, 10, 14, 12, 7, 16, 23, 21, 18, 19, 20, 24, 22, 1, 17, 26, 27, 29, 28], [28, 29, 26, 17, 1, 22, 24, 20, 19, 18, 21, 23, 16, 7, 12, 14, 10, 9, 8, 11, 13, 6, 4, 0, 3, 2, 5, 15, 25, 27, 30], [30, 25, 15, 5, 2, 3, 0, 4, 6, 13, 11, 8, 9, 10, 14, 12, 7, 16, 23, 21, 18, 19, 20, 24, 22, 1, 17, 26, 29, 28, 27, 31], [26, 17, 1, 22, 24, 20, 19, 18, 21, 23, 16, 7, 12, 14, 10, 9, 8, 11, 13, 6, 4, 0, 3, 2, 5, 15, 25, 27], [25, 15, 5, 2, 3, 0, 4, 6, 13, 11, 8, 9, 10, 14, 12, 7, 16, 23, 21, 18, 19, 20, 24, 22, 1, 17, 26, 27, 33], [33, 31, 28, 29, 26, 17, 1, 22, 24, 20, 19, 18, 21, 23, 16, 7, 12, 14, 10, 9, 8, 11, 13, 6, 4, 0, 3, 2, 5, 15, 25, 30, 27, 34, 32], [32, 34, 30, 29, 28, 31, 33, 26, 17, 22, 24, 20, 19, 18, 21, 23, 16, 7, 12, 14, 10, 9, 8, 11, 13, 6, 4, 0, 3, 2, 5, 15, 25, 1, 35, 27], [27, 35, 25, 15, 5, 2, 3, 4, 6, 13, 11, 8, 9, 10, 14, 12, 7, 16, 23, 21, 18, 19, 20, 24, 22, 17, 26, 33, 31, 28, 29, 30, 34, 32, 0, 36, 1], [36, 35, 34, 33, 32, 31, 30, 29, 28, 26, 25, 24, 23, 22, 21, 20, 19, 18, 17, 16, 15, 14, 13, 12, 11, 10, 9, 8, 7, 6, 5, 4, 3, 2, 1, 0, 27, 37]]))
    (.region [⟨(some 37), .mov (.tmp 13), none⟩,
      ⟨(some 38), .bin .add (.tmp 37) (.const (.int .i64 1)), none⟩,
      ⟨(some 13), .mov (.tmp 38), none⟩])))
def b_pandectlaw29_HistoryRefuses : ACode := (.seq (.region [⟨(some 4), .box (.tmp 1), none⟩,
    ⟨(some 6), .mov (.const (.bool false)), none⟩])
  (.seq (.region [⟨(some 17), .call 5 [], none⟩,
    ⟨(some 7), .mov (.tmp 17), none⟩])
  (.seq (.seq (.region [⟨(some 18), .mov (.tmp 0), none⟩,
    ⟨(some 19), .len (.tmp 18), none⟩,
    ⟨(some 20), .bin .gtr (.tmp 19) (.const (.int .i64 60)), none⟩])
  (.cond (.tmp 20)
    (.seq (.region [⟨(some 21), .mov (.tmp 7), none⟩,
      ⟨(some 6), .mov (.tmp 21), none⟩])
    .ret)
    .skip))
  (.seq (.region [⟨(some 23), .mov (.tmp 0), none⟩,
    ⟨(some 24), .call 6 [(.tmp 23)], none⟩,
    ⟨(some 22), .mov (.tmp 24), none⟩,
    ⟨(some 25), .ext 0 (.tmp 22), none⟩,
    ⟨(some 26), .ext 1 (.tmp 22), none⟩,
    ⟨(some 8), .mov (.tmp 25), none⟩,
    ⟨(some 9), .mov (.tmp 26), none⟩])
  (.seq (.region [⟨(some 27), .mov (.tmp 8), none⟩,
    ⟨(some 28), .mov (.tmp 2), none⟩,
    ⟨(some 29), .call 7 [(.tmp 27), (.tmp 28)], none⟩,
    ⟨(some 10), .mov (.tmp 29), none⟩])
  (.seq (.region [⟨(some 30), .bsl 49 [], none⟩,
    ⟨(some 31), .mov (.tmp 10), none⟩,
    ⟨(some 32), .app 49 696 (.tmp 30) (.tmp 31), none⟩,
    ⟨(some 11), .mov (.tmp 32), none⟩])
  (.seq (.region [⟨(some 12), .mov (.const (.bool false)), none⟩])
  (.seq (.seq (.region [⟨(some 13), .mov (.const (.int .i64 0)), none⟩])
  (.block 0 (.loop l_pandectlaw29_HistoryRefuses_0)))
  (.seq (.region [⟨(some 77), .faddr 0 (.tmp 4), none⟩,
    ⟨(some 78), .load false 1 (.tmp 77), none⟩,
    ⟨(some 79), .bin .geq (.tmp 78) (.const (.int .i64 0)), none⟩,
    ⟨(some 80), .mov (.tmp 79), none⟩,
    ⟨(some 81), .faddr 0 (.tmp 4), (some (80, true))⟩,
    ⟨(some 82), .load false 1 (.tmp 81), (some (80, true))⟩,
    ⟨(some 83), .bin .leq (.tmp 82) (.const (.int .i64 1000000)), (some (80, true))⟩,
    ⟨(some 84), .pick (.tmp 80) (.tmp 83) (.const (.bool false)), none⟩,
    ⟨(some 85), .mov (.tmp 84), none⟩,
    ⟨(some 86), .faddr 1 (.tmp 4), (some (85, true))⟩,
    ⟨(some 87), .load false 1 (.tmp 86), (some (85, true))⟩,
    ⟨(some 88), .bin .geq (.tmp 87) (.const (.int .i64 0)), (some (85, true))⟩,
    ⟨(some 89), .pick (.tmp 85) (.tmp 88) (.const (.bool false)), none⟩,
    ⟨(some 90), .mov (.tmp 89), none⟩,
    ⟨(some 91), .faddr 1 (.tmp 4), (some (90, true))⟩,
    ⟨(some 92), .load false 1 (.tmp 91), (some (90, true))⟩,
    ⟨(some 93), .bin .lss (.tmp 92) (.const (.int .i64 8)), (some (90, true))⟩,
    ⟨(some 94), .pick (.tmp 90) (.tmp 93) (.const (.bool false)), none⟩,
    ⟨(some 95), .mov (.tmp 94), none⟩,
    ⟨(some 96), .faddr 2 (.tmp 4), (some (95, true))⟩,
    ⟨(some 97), .load false 1 (.tmp 96), (some (95, true))⟩,
    ⟨(some 98), .bin .geq (.tmp 97) (.const (.int .i64 1)), (some (95, true))⟩,
    ⟨(some 99), .pick (.tmp 95) (.tmp 98) (.const (.bool false)), none⟩,
    ⟨(some 100), .mov (.tmp 99), none⟩,
    ⟨(some 101), .faddr 2 (.tmp 4), (some (100, true))⟩,
    ⟨(some 102), .load false 1 (.tmp 101), (some (100, true))⟩,
    ⟨(some 103), .bin .leq (.tmp 102) (.const (.int .i64 1000)), (some (100, true))⟩,
    ⟨(some 104), .pick (.tmp 100) (.tmp 103) (.const (.bool false)), none⟩,
    ⟨(some 105), .mov (.tmp 104), none⟩,
    ⟨(some 106), .faddr 3 (.tmp 4), (some (105, true))⟩,
    ⟨(some 107), .load false 1 (.tmp 106), (some (105, true))⟩,
    ⟨(some 108), .bin .geq (.tmp 107) (.const (.int .i64 0)), (some (105, true))⟩,
    ⟨(some 109), .pick (.tmp 105) (.tmp 108) (.const (.bool false)), none⟩,
    ⟨(some 110), .mov (.tmp 109), none⟩,
    ⟨(some 111), .faddr 3 (.tmp 4), (some (110, true))⟩,
    ⟨(some 112), .load false 1 (.tmp 111), (some (110, true))⟩,
    ⟨(some 113), .bin .lss (.tmp 112) (.const (.int .i64 4000)), (some (110, true))⟩,
    ⟨(some 114), .pick (.tmp 110) (.tmp 113) (.const (.bool false)), none⟩,
    ⟨(some 14), .mov (.tmp 114), none⟩])
  (.seq (.region [⟨(some 115), .mov (.tmp 8), none⟩,
    ⟨(some 116), .load true 49 (.tmp 4), none⟩,
    ⟨(some 117), .call 13 [(.tmp 115), (.tmp 116)], none⟩,
    ⟨(some 15), .mov (.tmp 117), none⟩])
  (.seq (.region [⟨(some 16), .mov (.const (.int .i64 0)), none⟩])
  (.seq (.seq (.region [⟨(some 118), .mov (.tmp 12), none⟩])
  (.cond (.tmp 118)
    (.region [⟨(some 16), .mov (.const (.int .i64 9)), none⟩])
    .skip))
  (.seq (.seq (.region [⟨(some 119), .mov (.tmp 14), none⟩,
    ⟨(some 120), .un .not (.tmp 119), none⟩])
  (.cond (.tmp 120)
    (.region [⟨(some 16), .mov (.const (.int .i64 1)), none⟩])
    .skip))
  (.seq (.seq (.region [⟨(some 121), .mov (.tmp 15), none⟩,
    ⟨(some 122), .mov (.tmp 16), none⟩,
    ⟨(some 123), .bin .neq (.tmp 121) (.tmp 122), none⟩,
    ⟨(some 124), .mov (.tmp 123), none⟩,
    ⟨(some 125), .mov (.tmp 10), (some (124, false))⟩,
    ⟨(some 126), .mov (.tmp 11), (some (124, false))⟩,
    ⟨(some 127), .call 10 [(.tmp 125), (.tmp 126)], (some (124, false))⟩,
    ⟨(some 128), .un .not (.tmp 127), (some (124, false))⟩,
    ⟨(some 129), .pick (.tmp 124) (.const (.bool true)) (.tmp 128), none⟩])
  (.cond (.tmp 129)
    (.seq (.region [⟨(some 6), .mov (.const (.bool false)), none⟩])
    .ret)
    .skip))
  (.seq (.region [⟨(some 130), .mov (.tmp 7), none⟩,
    ⟨(some 131), .mov (.tmp 130), none⟩,
    ⟨(some 132), .mov (.tmp 15), (some (131, true))⟩,
    ⟨(some 133), .bin .eql (.tmp 132) (.const (.int .i64 0)), (some (131, true))⟩,
    ⟨(some 134), .mov (.tmp 133), (some (131, true))⟩,
    ⟨(some 135), .mov (.tmp 8), (some (134, false))⟩,
    ⟨(some 136), .mov (.tmp 2), (some (134, false))⟩,
    ⟨(some 137), .call 7 [(.tmp 135), (.tmp 136)], (some (134, false))⟩,
    ⟨(some 138), .mov (.tmp 10), (some (134, false))⟩,
    ⟨(some 139), .call 10 [(.tmp 137), (.tmp 138)], (some (134, false))⟩,
    ⟨(some 140), .pick (.tmp 134) (.const (.bool true)) (.tmp 139), (some (131, true))⟩,
    ⟨(some 141), .pick (.tmp 131) (.tmp 140) (.const (.bool false)), none⟩,
    ⟨(some 6), .mov (.tmp 141), none⟩])
  .ret)))))))))))))))
def c_pandectlaw29_HistoryRefuses : AFun := ⟨142, b_pandectlaw29_HistoryRefuses, [(6, none)]⟩
/-- 5 pandect/pandectlaw29.head -/
def b_pandectlaw29_head : ACode := (.seq (.region [⟨(some 0), .mov (.const (.bool false)), none⟩])
  (.seq (.region [⟨(some 12), .call 14 [], none⟩,
    ⟨(some 1), .mov (.tmp 12), none⟩])
  (.seq (.region [⟨(some 13), .call 15 [(.const (.int .i64 5)), (.const (.int .i64 0)), (.const (.int .i64 1)), (.const (.int .i64 0)), (.const (.string ⟨#[97]⟩))], none⟩,
    ⟨(some 14), .call 15 [(.const (.int .i64 3)), (.const (.int .i64 1)), (.const (.int .i64 1)), (.const (.int .i64 0)), (.const (.string ⟨#[98]⟩))], none⟩,
    ⟨(some 15), .call 15 [(.const (.int .i64 5)), (.const (.int .i64 0)), (.const (.int .i64 1)), (.const (.int .i64 1)), (.const (.string ⟨#[99]⟩))], none⟩,
    ⟨(some 16), .call 15 [(.const (.int .i64 7)), (.const (.int .i64 0)), (.const (.int .i64 2)), (.const (.int .i64 0)), (.const (.string ⟨#[100]⟩))], none⟩,
    ⟨(some 2), .alloc [(.int .i64 0), (.int .i64 0), (.int .i64 0), (.int .i64 0), (.int .i64 0), (.string ⟨#[]⟩), (.int .i64 0), (.string ⟨#[]⟩), (.string ⟨#[]⟩), (.int .i64 0), (.slice none 0 0), (.slice none 0 0), (.slice none 0 0), (.slice none 0 0), (.string ⟨#[]⟩), (.string ⟨#[]⟩), (.int .i64 0), (.int .i64 0), (.int .i64 0), (.int .i64 0), (.string ⟨#[]⟩), (.int .i64 0), (.int .i64 0), (.slice none 0 0), (.int .i64 0), (.bool false), (.string ⟨#[]⟩), (.string ⟨#[]⟩), (.int .i64 0), (.string ⟨#[]⟩), (.string ⟨#[]⟩), (.int .i64 0), (.slice none 0 0), (.slice none 0 0), (.string ⟨#[]⟩), (.int .i64 0), (.slice none 0 0), (.string ⟨#[]⟩), (.int .i64 0), (.slice none 0 0), (.slice none 0 0), (.slice none 0 0), (.string ⟨#[]⟩), (.string ⟨#[]⟩), (.string ⟨#[]⟩), (.int .i64 0), (.int .i64 0), (.bool false), (.string ⟨#[]⟩)], none⟩,
    ⟨(some 3), .alloc [(.int .i64 0), (.int .i64 0), (.int .i64 0), (.int .i64 0), (.int .i64 0), (.string ⟨#[]⟩), (.int .i64 0), (.string ⟨#[]⟩), (.string ⟨#[]⟩), (.int .i64 0), (.slice none 0 0), (.slice none 0 0), (.slice none 0 0), (.slice none 0 0), (.string ⟨#[]⟩), (.string ⟨#[]⟩), (.int .i64 0), (.int .i64 0), (.int .i64 0), (.int .i64 0), (.string ⟨#[]⟩), (.int .i64 0), (.int .i64 0), (.slice none 0 0), (.int .i64 0), (.bool false), (.string ⟨#[]⟩), (.string ⟨#[]⟩), (.int .i64 0), (.string ⟨#[]⟩), (.string ⟨#[]⟩), (.int .i64 0), (.slice none 0 0), (.slice none 0 0), (.string ⟨#[]⟩), (.int .i64 0), (.slice none 0 0), (.string ⟨#[]⟩), (.int .i64 0), (.slice none 0 0), (.slice none 0 0), (.slice none 0 0), (.string ⟨#[]⟩), (.string ⟨#[]⟩), (.string ⟨#[]⟩), (.int .i64 0), (.int .i64 0), (.bool false), (.string ⟨#[]⟩)], none⟩,
    ⟨(some 4), .alloc [(.int .i64 0), (.int .i64 0), (.int .i64 0), (.int .i64 0), (.int .i64 0), (.string ⟨#[]⟩), (.int .i64 0), (.string ⟨#[]⟩), (.string ⟨#[]⟩), (.int .i64 0), (.slice none 0 0), (.slice none 0 0), (.slice none 0 0), (.slice none 0 0), (.string ⟨#[]⟩), (.string ⟨#[]⟩), (.int .i64 0), (.int .i64 0), (.int .i64 0), (.int .i64 0), (.string ⟨#[]⟩), (.int .i64 0), (.int .i64 0), (.slice none 0 0), (.int .i64 0), (.bool false), (.string ⟨#[]⟩), (.string ⟨#[]⟩), (.int .i64 0), (.string ⟨#[]⟩), (.string ⟨#[]⟩), (.int .i64 0), (.slice none 0 0), (.slice none 0 0), (.string ⟨#[]⟩), (.int .i64 0), (.slice none 0 0), (.string ⟨#[]⟩), (.int .i64 0), (.slice none 0 0), (.slice none 0 0), (.slice none 0 0), (.string ⟨#[]⟩), (.string ⟨#[]⟩), (.string ⟨#[]⟩), (.int .i64 0), (.int .i64 0), (.bool false), (.string ⟨#[]⟩)], none⟩,
    ⟨(some 5), .alloc [(.int .i64 0), (.int .i64 0), (.int .i64 0), (.int .i64 0), (.int .i64 0), (.string ⟨#[]⟩), (.int .i64 0), (.string ⟨#[]⟩), (.string ⟨#[]⟩), (.int .i64 0), (.slice none 0 0), (.slice none 0 0), (.slice none 0 0), (.slice none 0 0), (.string ⟨#[]⟩), (.string ⟨#[]⟩), (.int .i64 0), (.int .i64 0), (.int .i64 0), (.int .i64 0), (.string ⟨#[]⟩), (.int .i64 0), (.int .i64 0), (.slice none 0 0), (.int .i64 0), (.bool false), (.string ⟨#[]⟩), (.string ⟨#[]⟩), (.int .i64 0), (.string ⟨#[]⟩), (.string ⟨#[]⟩), (.int .i64 0), (.slice none 0 0), (.slice none 0 0), (.string ⟨#[]⟩), (.int .i64 0), (.slice none 0 0), (.string ⟨#[]⟩), (.int .i64 0), (.slice none 0 0), (.slice none 0 0), (.slice none 0 0), (.string ⟨#[]⟩), (.string ⟨#[]⟩), (.string ⟨#[]⟩), (.int .i64 0), (.int .i64 0), (.bool false), (.string ⟨#[]⟩)], none⟩,
    ⟨none, .store 49 (.tmp 2) (.tmp 13), none⟩,
    ⟨none, .store 49 (.tmp 3) (.tmp 14), none⟩,
    ⟨none, .store 49 (.tmp 4) (.tmp 15), none⟩,
    ⟨none, .store 49 (.tmp 5) (.tmp 16), none⟩])
  (.seq (.region [⟨(some 17), .mov (.tmp 1), none⟩,
    ⟨(some 18), .load true 49 (.tmp 2), none⟩,
    ⟨(some 19), .call 13 [(.tmp 17), (.tmp 18)], none⟩,
    ⟨(some 20), .bin .eql (.tmp 19) (.const (.int .i64 0)), none⟩,
    ⟨(some 21), .mov (.tmp 20), none⟩,
    ⟨(some 22), .mov (.tmp 1), (some (21, true))⟩,
    ⟨(some 23), .load true 49 (.tmp 3), (some (21, true))⟩,
    ⟨(some 24), .call 13 [(.tmp 22), (.tmp 23)], (some (21, true))⟩,
    ⟨(some 25), .bin .eql (.tmp 24) (.const (.int .i64 0)), (some (21, true))⟩,
    ⟨(some 26), .pick (.tmp 21) (.tmp 25) (.const (.bool false)), none⟩,
    ⟨(some 27), .mov (.tmp 26), none⟩,
    ⟨(some 28), .mov (.tmp 1), (some (27, true))⟩,
    ⟨(some 29), .load true 49 (.tmp 4), (some (27, true))⟩,
    ⟨(some 30), .call 13 [(.tmp 28), (.tmp 29)], (some (27, true))⟩,
    ⟨(some 31), .bin .eql (.tmp 30) (.const (.int .i64 0)), (some (27, true))⟩,
    ⟨(some 32), .pick (.tmp 27) (.tmp 31) (.const (.bool false)), none⟩,
    ⟨(some 33), .mov (.tmp 32), none⟩,
    ⟨(some 34), .mov (.tmp 1), (some (33, true))⟩,
    ⟨(some 35), .load true 49 (.tmp 5), (some (33, true))⟩,
    ⟨(some 36), .call 13 [(.tmp 34), (.tmp 35)], (some (33, true))⟩,
    ⟨(some 37), .bin .eql (.tmp 36) (.const (.int .i64 0)), (some (33, true))⟩,
    ⟨(some 38), .pick (.tmp 33) (.tmp 37) (.const (.bool false)), none⟩,
    ⟨(some 39), .mov (.tmp 38), none⟩,
    ⟨(some 40), .mov (.tmp 1), (some (39, true))⟩,
    ⟨(some 41), .call 15 [(.const (.int .i64 6)), (.const (.int .i64 0)), (.const (.int .i64 1)), (.const (.int .i64 0)), (.const (.string ⟨#[101]⟩))], (some (39, true))⟩,
    ⟨(some 42), .call 13 [(.tmp 40), (.tmp 41)], (some (39, true))⟩,
    ⟨(some 43), .bin .eql (.tmp 42) (.const (.int .i64 9)), (some (39, true))⟩,
    ⟨(some 44), .pick (.tmp 39) (.tmp 43) (.const (.bool false)), none⟩,
    ⟨(some 45), .mov (.tmp 44), none⟩,
    ⟨(some 46), .mov (.tmp 1), (some (45, true))⟩,
    ⟨(some 47), .call 15 [(.const (.int .i64 6)), (.const (.int .i64 8)), (.const (.int .i64 1)), (.const (.int .i64 0)), (.const (.string ⟨#[101]⟩))], (some (45, true))⟩,
    ⟨(some 48), .call 13 [(.tmp 46), (.tmp 47)], (some (45, true))⟩,
    ⟨(some 49), .bin .eql (.tmp 48) (.const (.int .i64 1)), (some (45, true))⟩,
    ⟨(some 50), .pick (.tmp 45) (.tmp 49) (.const (.bool false)), none⟩,
    ⟨(some 6), .mov (.tmp 50), none⟩])
  (.seq (.region [⟨(some 52), .mov (.tmp 1), none⟩,
    ⟨(some 53), .call 11 [(.tmp 52), (.const (.string ⟨#[99]⟩))], none⟩,
    ⟨(some 51), .mov (.tmp 53), none⟩,
    ⟨(some 54), .ext 0 (.tmp 51), none⟩,
    ⟨(some 55), .ext 1 (.tmp 51), none⟩,
    ⟨(some 7), .mov (.tmp 54), none⟩,
    ⟨(some 8), .mov (.tmp 55), none⟩])
  (.seq (.region [⟨(some 57), .mov (.tmp 1), none⟩,
    ⟨(some 58), .call 11 [(.tmp 57), (.const (.string ⟨#[101]⟩))], none⟩,
    ⟨(some 56), .mov (.tmp 58), none⟩,
    ⟨(some 59), .ext 0 (.tmp 56), none⟩,
    ⟨(some 60), .ext 1 (.tmp 56), none⟩,
    ⟨(some 9), .mov (.tmp 59), none⟩,
    ⟨(some 10), .mov (.tmp 60), none⟩])
  (.seq (.region [⟨(some 11), .mov (.const (.pointer none)), none⟩])
  (.seq (.draw [⟨(some 61), .mov (.tmp 6), none⟩,
    ⟨(some 62), .mov (.tmp 61), none⟩,
    ⟨(some 63), .mov (.tmp 1), (some (62, true))⟩,
    ⟨(some 64), .call 7 [(.tmp 63), (.const (.int .i64 5))], (some (62, true))⟩,
    ⟨(some 65), .load true 49 (.tmp 3), (some (62, true))⟩,
    ⟨(some 66), .load true 49 (.tmp 2), (some (62, true))⟩,
    ⟨(some 67), .load true 49 (.tmp 4), (some (62, true))⟩,
    ⟨(some 68), .bsl 49 [(.tmp 65), (.tmp 66), (.tmp 67)], (some (62, true))⟩,
    ⟨(some 69), .call 10 [(.tmp 64), (.tmp 68)], (some (62, true))⟩,
    ⟨(some 70), .pick (.tmp 62) (.tmp 69) (.const (.bool false)), none⟩,
    ⟨(some 71), .mov (.tmp 70), none⟩,
    ⟨(some 72), .mov (.tmp 1), (some (71, true))⟩,
    ⟨(some 73), .call 7 [(.tmp 72), (.const (.int .i64 2))], (some (71, true))⟩,
    ⟨(some 74), .len (.tmp 73), (some (71, true))⟩,
    ⟨(some 75), .bin .eql (.tmp 74) (.const (.int .i64 0)), (some (71, true))⟩,
    ⟨(some 76), .pick (.tmp 71) (.tmp 75) (.const (.bool false)), none⟩,
    ⟨(some 77), .mov (.tmp 76), none⟩,
    ⟨(some 78), .mov (.tmp 1), (some (77, true))⟩,
    ⟨(some 79), .call 7 [(.tmp 78), (.const (.int .i64 7))], (some (77, true))⟩,
    ⟨(some 80), .len (.tmp 79), (some (77, true))⟩,
    ⟨(some 81), .bin .eql (.tmp 80) (.const (.int .i64 4)), (some (77, true))⟩,
    ⟨(some 82), .pick (.tmp 77) (.tmp 81) (.const (.bool false)), none⟩,
    ⟨(some 83), .mov (.tmp 82), none⟩,
    ⟨(some 84), .mov (.tmp 8), (some (83, true))⟩,
    ⟨(some 85), .pick (.tmp 83) (.tmp 84) (.const (.bool false)), none⟩,
    ⟨(some 86), .mov (.tmp 85), none⟩,
    ⟨(some 87), .mov (.tmp 7), (some (86, true))⟩,
    ⟨(some 88), .bin .eql (.tmp 87) (.const (.int .i64 5)), (some (86, true))⟩,
    ⟨(some 89), .pick (.tmp 86) (.tmp 88) (.const (.bool false)), none⟩,
    ⟨(some 90), .mov (.tmp 89), none⟩,
    ⟨(some 91), .mov (.tmp 10), (some (90, true))⟩,
    ⟨(some 92), .un .not (.tmp 91), (some (90, true))⟩,
    ⟨(some 93), .pick (.tmp 90) (.tmp 92) (.const (.bool false)), none⟩,
    ⟨(some 94), .mov (.tmp 93), none⟩,
    ⟨(some 95), .mov (.tmp 1), (some (94, true))⟩,
    ⟨(some 96), .load true 49 (.tmp 2), (some (94, true))⟩,
    ⟨(some 97), .load true 49 (.tmp 3), (some (94, true))⟩,
    ⟨(some 98), .call 8 [(.tmp 95), (.tmp 96), (.tmp 97)], (some (94, true))⟩,
    ⟨(some 99), .bin .eql (.tmp 98) (.const (.int .i64 1)), (some (94, true))⟩,
    ⟨(some 100), .pick (.tmp 94) (.tmp 99) (.const (.bool false)), none⟩,
    ⟨(some 101), .mov (.tmp 100), none⟩,
    ⟨(some 102), .mov (.tmp 1), (some (101, true))⟩,
    ⟨(some 103), .load true 49 (.tmp 2), (some (101, true))⟩,
    ⟨(some 104), .load true 49 (.tmp 4), (some (101, true))⟩,
    ⟨(some 105), .call 8 [(.tmp 102), (.tmp 103), (.tmp 104)], (some (101, true))⟩,
    ⟨(some 106), .bin .eql (.tmp 105) (.const (.int .i64 (-1))), (some (101, true))⟩,
    ⟨(some 107), .pick (.tmp 101) (.tmp 106) (.const (.bool false)), none⟩,
    ⟨(some 108), .mov (.tmp 107), none⟩,
    ⟨(some 109), .mov (.tmp 11), (some (108, true))⟩,
    ⟨(some 110), .load true 49 (.tmp 2), (some (108, true))⟩,
    ⟨(some 111), .call 13 [(.tmp 109), (.tmp 110)], (some (108, true))⟩,
    ⟨(some 112), .bin .eql (.tmp 111) (.const (.int .i64 1)), (some (108, true))⟩,
    ⟨(some 113), .pick (.tmp 108) (.tmp 112) (.const (.bool false)), none⟩,
    ⟨(some 114), .mov (.tmp 113), none⟩,
    ⟨(some 115), .mov (.tmp 11), (some (114, true))⟩,
    ⟨(some 116), .call 7 [(.tmp 115), (.const (.int .i64 9))], (some (114, true))⟩,
    ⟨(some 117), .len (.tmp 116), (some (114, true))⟩,
    ⟨(some 118), .bin .eql (.tmp 117) (.const (.int .i64 0)), (some (114, true))⟩,
    ⟨(some 119), .pick (.tmp 114) (.tmp 118) (.const (.bool false)), none⟩,
    ⟨(some 0), .mov (.tmp 119), none⟩] [[], [0], [0, 1], [0, 1, 2], [0, 1], [0, 1], [0, 1], [0, 1, 6, 5, 4], [4, 5, 6, 2, 0, 1, 7, 3], [3, 7, 2, 6, 5, 4, 0, 8, 1], [1, 0, 4, 5, 6, 2, 7, 3, 8, 9], [9, 8, 3, 7, 2, 6, 5, 4, 0, 1, 10], [1, 0, 4, 5, 6, 2, 7, 3, 8, 9, 10, 11], [11, 9, 8, 3, 7, 2, 6, 5, 4, 0, 1, 10, 12], [12, 1, 0, 4, 5, 6, 2, 7, 3, 8, 9, 11, 10, 13], [13, 11, 12, 9, 8, 3, 7, 2, 6, 5, 4, 0, 1, 14, 10], [10, 14, 1, 0, 4, 5, 6, 2, 7, 3, 8, 9, 11, 13, 12, 15], [15, 12, 13, 11, 9, 8, 3, 7, 2, 6, 5, 4, 0, 1, 14, 10, 16], [10, 14, 1, 0, 4, 5, 6, 2, 7, 3, 8, 9, 11, 13, 12, 15, 16, 17], [17, 15, 12, 13, 11, 9, 8, 3, 7, 2, 6, 5, 4, 0, 1, 14, 10, 16, 18], [18, 10, 14, 1, 0, 4, 5, 6, 2, 7, 3, 8, 9, 11, 13, 12, 15, 17, 16, 19], [19, 17, 18, 15, 12, 13, 11, 9, 8, 3, 7, 2, 6, 5, 4, 0, 1, 14, 10, 20, 16], [16, 20, 10, 14, 1, 0, 4, 5, 6, 2, 7, 3, 8, 9, 11, 13, 12, 15, 17, 19, 18, 21], [21, 18, 19, 17, 15, 12, 13, 11, 9, 8, 3, 7, 2, 6, 5, 4, 0, 1, 14, 10, 20, 16, 22], [21, 18, 19, 17, 15, 12, 13, 11, 9, 8, 3, 7, 2, 6, 5, 4, 0, 1, 14, 10, 20, 16, 23, 22], [23, 16, 20, 10, 14, 1, 0, 4, 5, 6, 2, 7, 3, 8, 9, 11, 13, 12, 15, 17, 19, 18, 21, 22, 24], [24, 22, 21, 18, 19, 17, 15, 12, 13, 11, 9, 8, 3, 7, 2, 6, 5, 4, 0, 1, 14, 10, 20, 16, 23, 25], [23, 16, 20, 10, 14, 1, 0, 4, 5, 6, 2, 7, 3, 8, 9, 11, 13, 12, 15, 17, 19, 18, 21, 22, 24, 25, 26], [26, 24, 22, 21, 18, 19, 17, 15, 12, 13, 11, 9, 8, 3, 7, 2, 6, 5, 4, 0, 1, 14, 10, 20, 16, 23, 27, 25], [27, 23, 16, 20, 10, 14, 1, 0, 4, 5, 6, 2, 7, 3, 8, 9, 11, 13, 12, 15, 17, 19, 18, 21, 22, 24, 26, 25, 28], [28, 25, 26, 24, 22, 21, 18, 19, 17, 15, 12, 13, 11, 9, 8, 3, 7, 2, 6, 5, 4, 0, 1, 14, 10, 20, 16, 23, 27, 29], [27, 23, 16, 20, 10, 14, 1, 0, 4, 5, 6, 2, 7, 3, 8, 9, 11, 13, 12, 15, 17, 19, 18, 21, 22, 24, 26, 25, 28, 29, 30], [30, 28, 25, 26, 24, 22, 21, 18, 19, 17, 15, 12, 13, 11, 9, 8, 3, 7, 2, 6, 5, 4, 0, 1, 14, 10, 20, 16, 23, 27, 31, 29], [31, 27, 23, 16, 20, 10, 14, 1, 0, 4, 5, 6, 2, 7, 3, 8, 9, 11, 13, 12, 15, 17, 19, 18, 21, 22, 24, 26, 25, 28, 30, 29, 32], [32, 29, 30, 28, 25, 26, 24, 22, 21, 18, 19, 17, 15, 12, 13, 11, 9, 8, 3, 7, 2, 6, 5, 4, 0, 1, 14, 10, 20, 16, 23, 27, 31, 33], [32, 29, 30, 28, 25, 26, 24, 22, 21, 18, 19, 17, 15, 12, 13, 11, 9, 8, 3, 7, 2, 6, 5, 4, 0, 1, 14, 10, 20, 16, 23, 27, 31, 33], [32, 29, 30, 28, 25, 26, 24, 22, 21, 18, 19, 17, 15, 12, 13, 11, 9, 8, 3, 7, 2, 6, 5, 4, 0, 1, 14, 10, 20, 16, 23, 27, 31, 33], [31, 27, 23, 16, 20, 10, 14, 1, 0, 4, 5, 6, 2, 7, 3, 8, 9, 11, 13, 12, 15, 17, 19, 18, 21, 22, 24, 26, 25, 28, 30, 29, 32, 33, 36, 35, 34], [34, 35, 36, 32, 29, 30, 28, 25, 26, 24, 22, 21, 18, 19, 17, 15, 12, 13, 11, 9, 8, 3, 7, 2, 6, 5, 4, 0, 1, 14, 10, 20, 16, 23, 27, 31, 33, 37], [37, 36, 35, 34, 32, 29, 30, 28, 25, 26, 24, 22, 21, 18, 19, 17, 15, 12, 13, 11, 9, 8, 3, 7, 2, 6, 5, 4, 0, 1, 14, 10, 20, 16, 23, 27, 31, 38, 33], [33, 38, 31, 27, 23, 16, 20, 10, 14, 1, 0, 4, 5, 6, 2, 7, 3, 8, 9, 11, 13, 12, 15, 17, 19, 18, 21, 22, 24, 26, 25, 28, 30, 29, 32, 34, 35, 36, 37, 39], [39, 37, 36, 35, 34, 32, 29, 30, 28, 25, 26, 24, 22, 21, 18, 19, 17, 15, 12, 13, 11, 9, 8, 3, 7, 2, 6, 5, 4, 0, 1, 14, 10, 20, 16, 23, 27, 31, 38, 33, 40], [39, 37, 36, 35, 34, 32, 29, 30, 28, 25, 26, 24, 22, 21, 18, 19, 17, 15, 12, 13, 11, 9, 8, 3, 7, 2, 6, 5, 4, 0, 1, 14, 10, 20, 16, 23, 27, 31, 38, 33, 40], [39, 37, 36, 35, 34, 32, 29, 30, 28, 25, 26, 24, 22, 21, 18, 19, 17, 15, 12, 13, 11, 9, 8, 3, 7, 2, 6, 5, 4, 0, 1, 14, 10, 20, 16, 23, 27, 31, 38, 33, 40], [33, 38, 31, 27, 23, 16, 20, 10, 14, 1, 0, 4, 5, 6, 2, 7, 3, 8, 9, 11, 13, 12, 15, 17, 19, 18, 21, 22, 24, 26, 25, 28, 30, 29, 32, 34, 35, 36, 37, 39, 40, 43, 42, 41], [41, 42, 43, 39, 37, 36, 35, 34, 32, 29, 30, 28, 25, 26, 24, 22, 21, 18, 19, 17, 15, 12, 13, 11, 9, 8, 3, 7, 2, 6, 5, 4, 0, 1, 14, 10, 20, 16, 23, 27, 31, 38, 33, 40, 44], [44, 43, 42, 41, 39, 37, 36, 35, 34, 32, 29, 30, 28, 25, 26, 24, 22, 21, 18, 19, 17, 15, 12, 13, 11, 9, 8, 3, 7, 2, 6, 5, 4, 0, 1, 14, 10, 20, 16, 23, 27, 31, 38, 33, 45, 40], [40, 45, 33, 38, 31, 27, 23, 16, 20, 10, 14, 1, 0, 4, 5, 6, 2, 7, 3, 8, 9, 11, 13, 12, 15, 17, 19, 18, 21, 22, 24, 26, 25, 28, 30, 29, 32, 34, 35, 36, 37, 39, 41, 42, 43, 44, 46], [46, 44, 43, 42, 41, 39, 37, 36, 35, 34, 32, 29, 30, 28, 25, 26, 24, 22, 21, 18, 19, 17, 15, 12, 13, 11, 9, 8, 3, 7, 2, 6, 5, 4, 0, 1, 14, 10, 20, 16, 23, 27, 31, 38, 33, 45, 40, 47], [46, 44, 43, 42, 41, 39, 37, 36, 35, 34, 32, 29, 30, 28, 25, 26, 24, 22, 21, 18, 19, 17, 15, 12, 13, 11, 9, 8, 3, 7, 2, 6, 5, 4, 0, 1, 14, 10, 20, 16, 23, 27, 31, 38, 33, 45, 40, 47], [40, 45, 33, 38, 31, 27, 23, 16, 20, 10, 14, 1, 0, 4, 5, 6, 2, 7, 3, 8, 9, 11, 13, 12, 15, 17, 19, 18, 21, 22, 24, 26, 25, 28, 30, 29, 32, 34, 35, 36, 37, 39, 41, 42, 43, 44, 46, 47, 49, 48], [48, 49, 46, 44, 43, 42, 41, 39, 37, 36, 35, 34, 32, 29, 30, 28, 25, 26, 24, 22, 21, 18, 19, 17, 15, 12, 13, 11, 9, 8, 3, 7, 2, 6, 5, 4, 0, 1, 14, 10, 20, 16, 23, 27, 31, 38, 33, 45, 40, 47, 50], [50, 49, 48, 46, 44, 43, 42, 41, 39, 37, 36, 35, 34, 32, 29, 30, 28, 25, 26, 24, 22, 21, 18, 19, 17, 15, 12, 13, 11, 9, 8, 3, 7, 2, 6, 5, 4, 0, 1, 14, 10, 20, 16, 23, 27, 31, 38, 33, 45, 40, 51, 47], [47, 51, 40, 45, 33, 38, 31, 27, 23, 16, 20, 10, 14, 1, 0, 4, 5, 6, 2, 7, 3, 8, 9, 11, 13, 12, 15, 17, 19, 18, 21, 22, 24, 26, 25, 28, 30, 29, 32, 34, 35, 36, 37, 39, 41, 42, 43, 44, 46, 48, 49, 50, 52], [52, 50, 49, 48, 46, 44, 43, 42, 41, 39, 37, 36, 35, 34, 32, 29, 30, 28, 25, 26, 24, 22, 21, 18, 19, 17, 15, 12, 13, 11, 9, 8, 3, 7, 2, 6, 5, 4, 0, 1, 14, 10, 20, 16, 23, 27, 31, 38, 33, 45, 40, 51, 47, 53], [47, 51, 40, 45, 33, 38, 31, 27, 23, 16, 20, 10, 14, 1, 0, 4, 5, 6, 2, 7, 3, 8, 9, 11, 13, 12, 15, 17, 19, 18, 21, 22, 24, 26, 25, 28, 30, 29, 32, 34, 35, 36, 37, 39, 41, 42, 43, 44, 46, 48, 49, 50, 52, 53, 54], [54, 52, 50, 49, 48, 46, 44, 43, 42, 41, 39, 37, 36, 35, 34, 32, 29, 30, 28, 25, 26, 24, 22, 21, 18, 19, 17, 15, 12, 13, 11, 9, 8, 3, 7, 2, 6, 5, 4, 0, 1, 14, 10, 20, 16, 23, 27, 31, 38, 33, 45, 40, 51, 47, 53, 55], [55, 47, 51, 40, 45, 33, 38, 31, 27, 23, 16, 20, 10, 14, 1, 0, 4, 5, 6, 2, 7, 3, 8, 9, 11, 13, 12, 15, 17, 19, 18, 21, 22, 24, 26, 25, 28, 30, 29, 32, 34, 35, 36, 37, 39, 41, 42, 43, 44, 46, 48, 49, 50, 52, 54, 53, 56], [56, 54, 55, 52, 50, 49, 48, 46, 44, 43, 42, 41, 39, 37, 36, 35, 34, 32, 29, 30, 28, 25, 26, 24, 22, 21, 18, 19, 17, 15, 12, 13, 11, 9, 8, 3, 7, 2, 6, 5, 4, 0, 1, 14, 10, 20, 16, 23, 27, 31, 38, 33, 45, 40, 51, 47, 57, 53], [57, 56, 54, 53, 52, 51, 50, 49, 48, 47, 46, 45, 44, 43, 42, 41, 40, 39, 38, 37, 36, 35, 34, 33, 32, 31, 30, 29, 28, 27, 26, 25, 24, 23, 22, 21, 20, 19, 18, 17, 16, 15, 14, 13, 12, 11, 10, 9, 8, 7, 6, 5, 4, 3, 2, 1, 0, 55, 58]])
  .ret))))))))
def c_pandectlaw29_head : AFun := ⟨120, b_pandectlaw29_head, [(0, none)]⟩
/-- 6 pandect/pandectlaw29.added -/
def l_pandectlaw29_added_0 : ACode := (.seq (.seq (.region [⟨(some 8), .mov (.tmp 6), none⟩,
      ⟨(some 9), .mov (.tmp 0), none⟩,
      ⟨(some 10), .len (.tmp 9), none⟩,
      ⟨(some 11), .bin .lss (.tmp 8) (.tmp 10), none⟩])
    (.cond (.tmp 11)
      .skip
      (.exit 0)))
    (.seq (.block 1 (.region [⟨(some 14), .mov (.tmp 5), none⟩,
       ⟨(some 15), .mov (.tmp 4), none⟩,
       ⟨(some 16), .mov (.tmp 0), none⟩,
       ⟨(some 17), .mov (.tmp 6), none⟩,
       ⟨(some 18), .iaddr 49 (.tmp 16) (.tmp 17), none⟩,
       ⟨(some 19), .load true 49 (.tmp 18), none⟩,
       ⟨(some 20), .call 13 [(.tmp 15), (.tmp 19)], none⟩,
       ⟨(some 21), .bsl 1 [(.tmp 20)], none⟩,
       ⟨(some 22), .app 1 8 (.tmp 14) (.tmp 21), none⟩,
       ⟨(some 5), .mov (.tmp 22), none⟩]))
    (.region [⟨(some 12), .mov (.tmp 6), none⟩,
      ⟨(some 13), .bin .add (.tmp 12) (.const (.int .i64 1)), none⟩,
      ⟨(some 6), .mov (.tmp 13), none⟩])))
def b_pandectlaw29_added : ACode := (.seq (.region [⟨(some 2), .mov (.const (.pointer none)), none⟩,
    ⟨(some 3), .mov (.const (.slice none 0 0)), none⟩])
  (.seq (.region [⟨(some 7), .call 14 [], none⟩,
    ⟨(some 4), .mov (.tmp 7), none⟩])
  (.seq (.region [⟨(some 5), .mov (.const (.slice none 0 0)), none⟩])
  (.seq (.seq (.region [⟨(some 6), .mov (.const (.int .i64 0)), none⟩])
  (.block 0 (.loop l_pandectlaw29_added_0)))
  (.seq (.region [⟨(some 23), .mov (.tmp 4), none⟩,
    ⟨(some 24), .mov (.tmp 5), none⟩,
    ⟨(some 2), .mov (.tmp 23), none⟩,
    ⟨(some 3), .mov (.tmp 24), none⟩])
  .ret)))))
def c_pandectlaw29_added : AFun := ⟨25, b_pandectlaw29_added, [(2, none), (3, none)]⟩
/-- 7 (*pandect/history.History).At -/
def l_history_History_At_0 : ACode := (.seq (.region [⟨(some 17), .bin .lss (.tmp 16) (.tmp 15), none⟩])
    (.seq (.cond (.tmp 17)
      .skip
      (.exit 0))
    (.seq (.block 1 (.seq (.region [⟨(some 18), .iaddr 1 (.tmp 14) (.tmp 16), none⟩,
       ⟨(some 19), .load false 1 (.tmp 18), none⟩,
       ⟨(some 7), .mov (.tmp 19), none⟩])
     (.seq (.seq (.region [⟨(some 20), .mov (.tmp 7), none⟩,
       ⟨(some 21), .nilc (.tmp 20), none⟩,
       ⟨(some 22), .faddr 0 (.tmp 21), none⟩,
       ⟨(some 23), .load false 1 (.tmp 22), none⟩,
       ⟨(some 24), .mov (.tmp 1), none⟩,
       ⟨(some 25), .bin .gtr (.tmp 23) (.tmp 24), none⟩])
     (.cond (.tmp 25)
       (.exit 0)
       .skip))
     (.region [⟨(some 26), .mov (.tmp 5), none⟩,
       ⟨(some 27), .mov (.tmp 7), none⟩,
       ⟨(some 28), .nilc (.tmp 27), none⟩,
       ⟨(some 29), .load true 49 (.tmp 28), none⟩,
       ⟨(some 30), .bsl 49 [(.tmp 29)], none⟩,
       ⟨(some 31), .app 49 696 (.tmp 26) (.tmp 30), none⟩,
       ⟨(some 5), .mov (.tmp 31), none⟩]))))
    (.region [⟨(some 32), .bin .add (.tmp 16) (.const (.int .i64 1)), none⟩,
      ⟨(some 16), .mov (.tmp 32), none⟩]))))
def b_history_History_At : ACode := (.seq (.region [⟨(some 4), .mov (.const (.slice none 0 0)), none⟩])
  (.seq (.seq (.region [⟨(some 8), .mov (.tmp 0), none⟩,
    ⟨(some 9), .peq false (.tmp 8), none⟩])
  (.cond (.tmp 9)
    (.seq (.region [⟨(some 4), .mov (.const (.slice none 0 0)), none⟩])
    .ret)
    .skip))
  (.seq (.region [⟨(some 5), .mov (.const (.slice none 0 0)), none⟩])
  (.seq (.seq (.region [⟨(some 10), .mov (.tmp 0), none⟩,
    ⟨(some 11), .nilc (.tmp 10), none⟩,
    ⟨(some 12), .faddr 0 (.tmp 11), none⟩,
    ⟨(some 13), .faddr 0 (.tmp 12), none⟩,
    ⟨(some 14), .load false 1 (.tmp 13), none⟩,
    ⟨(some 15), .len (.tmp 14), none⟩,
    ⟨(some 16), .mov (.const (.int .i64 0)), none⟩])
  (.block 0 (.loop l_history_History_At_0)))
  (.seq (.region [⟨(some 33), .mov (.tmp 5), none⟩,
    ⟨(some 4), .mov (.tmp 33), none⟩])
  .ret)))))
def c_history_History_At : AFun := ⟨34, b_history_History_At, [(4, none)]⟩
/-- 8 (*pandect/history.History).Order -/
def b_history_History_Order : ACode := (.seq (.region [⟨(some 4), .box (.tmp 1), none⟩,
    ⟨(some 5), .box (.tmp 2), none⟩,
    ⟨(some 6), .mov (.const (.int .i64 0)), none⟩])
  (.seq (.region [⟨(some 7), .mov (.const (.pointer none)), none⟩])
  (.seq (.region [⟨(some 8), .mov (.tmp 7), none⟩,
    ⟨(some 9), .load true 49 (.tmp 4), none⟩,
    ⟨(some 10), .load true 49 (.tmp 5), none⟩,
    ⟨(some 11), .call 16 [(.tmp 8), (.tmp 9), (.tmp 10)], none⟩,
    ⟨(some 6), .mov (.tmp 11), none⟩])
  .ret)))
def c_history_History_Order : AFun := ⟨12, b_history_History_Order, [(6, none)]⟩
/-- 9 pandect/pandectref29.Equal -/
def b_pandectref29_Equal : ACode := (.seq (.region [⟨(some 2), .box (.tmp 0), none⟩,
    ⟨(some 3), .box (.tmp 1), none⟩,
    ⟨(some 4), .mov (.const (.bool false)), none⟩])
  (.seq (.region [⟨(some 5), .load true 49 (.tmp 2), none⟩,
    ⟨(some 6), .load true 49 (.tmp 3), none⟩,
    ⟨(some 7), .call 17 [(.tmp 5), (.tmp 6)], none⟩,
    ⟨(some 8), .bin .eql (.tmp 7) (.const (.int .i64 0)), none⟩,
    ⟨(some 9), .mov (.tmp 8), none⟩,
    ⟨(some 10), .faddr 4 (.tmp 2), (some (9, true))⟩,
    ⟨(some 11), .faddr 0 (.tmp 10), (some (9, true))⟩,
    ⟨(some 12), .load false 1 (.tmp 11), (some (9, true))⟩,
    ⟨(some 13), .faddr 4 (.tmp 3), (some (9, true))⟩,
    ⟨(some 14), .faddr 0 (.tmp 13), (some (9, true))⟩,
    ⟨(some 15), .load false 1 (.tmp 14), (some (9, true))⟩,
    ⟨(some 16), .bin .eql (.tmp 12) (.tmp 15), (some (9, true))⟩,
    ⟨(some 17), .pick (.tmp 9) (.tmp 16) (.const (.bool false)), none⟩,
    ⟨(some 18), .mov (.tmp 17), none⟩,
    ⟨(some 19), .faddr 4 (.tmp 2), (some (18, true))⟩,
    ⟨(some 20), .faddr 1 (.tmp 19), (some (18, true))⟩,
    ⟨(some 21), .load false 1 (.tmp 20), (some (18, true))⟩,
    ⟨(some 22), .faddr 4 (.tmp 3), (some (18, true))⟩,
    ⟨(some 23), .faddr 1 (.tmp 22), (some (18, true))⟩,
    ⟨(some 24), .load false 1 (.tmp 23), (some (18, true))⟩,
    ⟨(some 25), .bin .eql (.tmp 21) (.tmp 24), (some (18, true))⟩,
    ⟨(some 26), .pick (.tmp 18) (.tmp 25) (.const (.bool false)), none⟩,
    ⟨(some 27), .mov (.tmp 26), none⟩,
    ⟨(some 28), .faddr 4 (.tmp 2), (some (27, true))⟩,
    ⟨(some 29), .faddr 2 (.tmp 28), (some (27, true))⟩,
    ⟨(some 30), .load false 1 (.tmp 29), (some (27, true))⟩,
    ⟨(some 31), .faddr 4 (.tmp 3), (some (27, true))⟩,
    ⟨(some 32), .faddr 2 (.tmp 31), (some (27, true))⟩,
    ⟨(some 33), .load false 1 (.tmp 32), (some (27, true))⟩,
    ⟨(some 34), .bin .eql (.tmp 30) (.tmp 33), (some (27, true))⟩,
    ⟨(some 35), .pick (.tmp 27) (.tmp 34) (.const (.bool false)), none⟩,
    ⟨(some 4), .mov (.tmp 35), none⟩])
  .ret))
def c_pandectref29_Equal : AFun := ⟨36, b_pandectref29_Equal, [(4, none)]⟩
/-- 10 pandect/pandectref29.Same -/
def l_pandectref29_Same_0 : ACode := (.seq (.seq (.region [⟨(some 11), .mov (.tmp 5), none⟩,
      ⟨(some 12), .mov (.tmp 0), none⟩,
      ⟨(some 13), .len (.tmp 12), none⟩,
      ⟨(some 14), .bin .lss (.tmp 11) (.tmp 13), none⟩])
    (.cond (.tmp 14)
      .skip
      (.exit 0)))
    (.seq (.block 1 (.seq (.draw [⟨(some 17), .mov (.tmp 0), none⟩,
       ⟨(some 18), .mov (.tmp 5), none⟩,
       ⟨(some 19), .iaddr 49 (.tmp 17) (.tmp 18), none⟩,
       ⟨(some 20), .load true 49 (.tmp 19), none⟩,
       ⟨(some 21), .mov (.tmp 1), none⟩,
       ⟨(some 22), .mov (.tmp 5), none⟩,
       ⟨(some 23), .iaddr 49 (.tmp 21) (.tmp 22), none⟩,
       ⟨(some 24), .load true 49 (.tmp 23), none⟩,
       ⟨(some 25), .call 9 [(.tmp 20), (.tmp 24)], none⟩,
       ⟨(some 26), .un .not (.tmp 25), none⟩] [[], [], [1, 0], [0, 1, 2], [], [], [5, 4], [4, 5, 6], [6, 5, 4, 2, 1, 0, 7, 3], [3, 7, 0, 1, 2, 4, 5, 6, 8]])
     (.cond (.tmp 26)
       (.seq (.region [⟨(some 4), .mov (.const (.bool false)), none⟩])
       .ret)
       .skip)))
    (.region [⟨(some 15), .mov (.tmp 5), none⟩,
      ⟨(some 16), .bin .add (.tmp 15) (.const (.int .i64 1)), none⟩,
      ⟨(some 5), .mov (.tmp 16), none⟩])))
def b_pandectref29_Same : ACode := (.seq (.region [⟨(some 4), .mov (.const (.bool false)), none⟩])
  (.seq (.seq (.region [⟨(some 6), .mov (.tmp 0), none⟩,
    ⟨(some 7), .len (.tmp 6), none⟩,
    ⟨(some 8), .mov (.tmp 1), none⟩,
    ⟨(some 9), .len (.tmp 8), none⟩,
    ⟨(some 10), .bin .neq (.tmp 7) (.tmp 9), none⟩])
  (.cond (.tmp 10)
    (.seq (.region [⟨(some 4), .mov (.const (.bool false)), none⟩])
    .ret)
    .skip))
  (.seq (.seq (.region [⟨(some 5), .mov (.const (.int .i64 0)), none⟩])
  (.block 0 (.loop l_pandectref29_Same_0)))
  (.seq (.region [⟨(some 4), .mov (.const (.bool true)), none⟩])
  .ret))))
def c_pandectref29_Same : AFun := ⟨27, b_pandectref29_Same, [(4, none)]⟩
/-- 11 (*pandect/history.History).Since -/
def l_history_History_Since_0 : ACode := (.seq (.region [⟨(some 12), .bin .lss (.tmp 11) (.tmp 10), none⟩])
    (.seq (.cond (.tmp 12)
      .skip
      (.exit 0))
    (.seq (.block 1 (.seq (.region [⟨(some 13), .iaddr 49 (.tmp 9) (.tmp 11), none⟩,
       ⟨(some 14), .load true 49 (.tmp 13), none⟩,
       ⟨(some 7), .alloc [(.int .i64 0), (.int .i64 0), (.int .i64 0), (.int .i64 0), (.int .i64 0), (.string ⟨#[]⟩), (.int .i64 0), (.string ⟨#[]⟩), (.string ⟨#[]⟩), (.int .i64 0), (.slice none 0 0), (.slice none 0 0), (.slice none 0 0), (.slice none 0 0), (.string ⟨#[]⟩), (.string ⟨#[]⟩), (.int .i64 0), (.int .i64 0), (.int .i64 0), (.int .i64 0), (.string ⟨#[]⟩), (.int .i64 0), (.int .i64 0), (.slice none 0 0), (.int .i64 0), (.bool false), (.string ⟨#[]⟩), (.string ⟨#[]⟩), (.int .i64 0), (.string ⟨#[]⟩), (.string ⟨#[]⟩), (.int .i64 0), (.slice none 0 0), (.slice none 0 0), (.string ⟨#[]⟩), (.int .i64 0), (.slice none 0 0), (.string ⟨#[]⟩), (.int .i64 0), (.slice none 0 0), (.slice none 0 0), (.slice none 0 0), (.string ⟨#[]⟩), (.string ⟨#[]⟩), (.string ⟨#[]⟩), (.int .i64 0), (.int .i64 0), (.bool false), (.string ⟨#[]⟩)], none⟩,
       ⟨none, .store 49 (.tmp 7) (.tmp 14), none⟩])
     (.seq (.region [⟨(some 15), .faddr 4 (.tmp 7), none⟩,
       ⟨(some 16), .faddr 1 (.tmp 15), none⟩,
       ⟨(some 17), .load false 1 (.tmp 16), none⟩,
       ⟨(some 18), .mov (.tmp 1), none⟩,
       ⟨(some 19), .bin .eql (.tmp 17) (.tmp 18), none⟩])
     (.cond (.tmp 19)
       (.seq (.region [⟨(some 20), .faddr 0 (.tmp 7), none⟩,
         ⟨(some 21), .load false 1 (.tmp 20), none⟩,
         ⟨(some 4), .mov (.tmp 21), none⟩,
         ⟨(some 5), .mov (.const (.bool true)), none⟩])
       .ret)
       .skip))))
    (.region [⟨(some 22), .bin .add (.tmp 11) (.const (.int .i64 1)), none⟩,
      ⟨(some 11), .mov (.tmp 22), none⟩]))))
def b_history_History_Since : ACode := (.seq (.region [⟨(some 4), .mov (.const (.int .i64 0)), none⟩,
    ⟨(some 5), .mov (.const (.bool false)), none⟩])
  (.seq (.seq (.region [⟨(some 8), .mov (.tmp 0), none⟩,
    ⟨(some 9), .call 7 [(.tmp 8), (.const (.int .i64 1000000))], none⟩,
    ⟨(some 10), .len (.tmp 9), none⟩,
    ⟨(some 11), .mov (.const (.int .i64 0)), none⟩])
  (.block 0 (.loop l_history_History_Since_0)))
  (.seq (.region [⟨(some 4), .mov (.const (.int .i64 0)), none⟩,
    ⟨(some 5), .mov (.const (.bool false)), none⟩])
  .ret)))
def c_history_History_Since : AFun := ⟨23, b_history_History_Since, [(4, none), (5, none)]⟩
/-- 12 pandect/pandectlaw29.has -/
def l_pandectlaw29_has_0 : ACode := (.seq (.seq (.region [⟨(some 6), .mov (.tmp 5), none⟩,
      ⟨(some 7), .mov (.tmp 0), none⟩,
      ⟨(some 8), .len (.tmp 7), none⟩,
      ⟨(some 9), .bin .lss (.tmp 6) (.tmp 8), none⟩])
    (.cond (.tmp 9)
      .skip
      (.exit 0)))
    (.seq (.block 1 (.seq (.region [⟨(some 12), .mov (.tmp 0), none⟩,
       ⟨(some 13), .mov (.tmp 5), none⟩,
       ⟨(some 14), .iaddr 49 (.tmp 12) (.tmp 13), none⟩,
       ⟨(some 15), .faddr 4 (.tmp 14), none⟩,
       ⟨(some 16), .faddr 1 (.tmp 15), none⟩,
       ⟨(some 17), .load false 1 (.tmp 16), none⟩,
       ⟨(some 18), .mov (.tmp 1), none⟩,
       ⟨(some 19), .bin .eql (.tmp 17) (.tmp 18), none⟩])
     (.cond (.tmp 19)
       (.seq (.region [⟨(some 4), .mov (.const (.bool true)), none⟩])
       .ret)
       .skip)))
    (.region [⟨(some 10), .mov (.tmp 5), none⟩,
      ⟨(some 11), .bin .add (.tmp 10) (.const (.int .i64 1)), none⟩,
      ⟨(some 5), .mov (.tmp 11), none⟩])))
def b_pandectlaw29_has : ACode := (.seq (.region [⟨(some 4), .mov (.const (.bool false)), none⟩])
  (.seq (.seq (.region [⟨(some 5), .mov (.const (.int .i64 0)), none⟩])
  (.block 0 (.loop l_pandectlaw29_has_0)))
  (.seq (.region [⟨(some 4), .mov (.const (.bool false)), none⟩])
  .ret)))
def c_pandectlaw29_has : AFun := ⟨20, b_pandectlaw29_has, [(4, none)]⟩
/-- 13 (*pandect/history.History).Add -/
def b_history_History_Add (q : Nat → Nat) : ACode := (.seq (.region [⟨(some 3), .box (.tmp 1), none⟩,
    ⟨(some 4), .mov (.const (.int .i64 0)), none⟩])
  (.seq (.region [⟨(some 10), .load true 49 (.tmp 3), none⟩,
    ⟨(some 11), .call 18 [(.tmp 10)], none⟩,
    ⟨(some 5), .alloc [(.int .i64 0), (.int .i64 0), (.int .i64 0), (.int .i64 0)], none⟩,
    ⟨none, .store 4 (.tmp 5) (.tmp 11), none⟩])
  (.seq (.region [⟨(some 12), .load true 4 (.tmp 5), none⟩,
    ⟨(some 6), .alloc [(.int .i64 0), (.int .i64 0), (.int .i64 0), (.int .i64 0)], none⟩,
    ⟨none, .store 4 (.tmp 6) (.tmp 12), none⟩])
  (.seq (.region [⟨(some 13), .aaddr 4 1 (.tmp 6) (.const (.int .i64 0)), none⟩,
    ⟨none, .store 1 (.tmp 13) (.const (.int .i64 0)), none⟩])
  (.seq (.block 0 (.seq (.region [⟨(some 15), .mov (.tmp 0), none⟩,
     ⟨(some 16), .peq false (.tmp 15), none⟩,
     ⟨(some 17), .mov (.tmp 16), none⟩,
     ⟨(some 18), .load true 4 (.tmp 5), (some (17, false))⟩,
     ⟨(some 19), .call 19 [(.tmp 18)], (some (17, false))⟩,
     ⟨(some 20), .un .not (.tmp 19), (some (17, false))⟩,
     ⟨(some 21), .pick (.tmp 17) (.const (.bool true)) (.tmp 20), none⟩,
     ⟨(some 14), .mov (.tmp 21), none⟩])
   (.cond (.tmp 14)
     (.seq (.region [⟨(some 4), .mov (.const (.int .i64 1)), none⟩])
     .ret)
     (.seq (.draw [⟨(some 23), .mov (.tmp 0), none⟩,
       ⟨(some 24), .nilc (.tmp 23), none⟩,
       ⟨(some 25), .faddr 0 (.tmp 24), none⟩,
       ⟨(some 26), .faddr 1 (.tmp 25), none⟩,
       ⟨(some 27), .load false 1 (.tmp 26), none⟩,
       ⟨(some 28), .load true 4 (.tmp 6), none⟩,
       ⟨(some 29), .mget true [1, 1, 1, 1] (.bool false) false (.tmp 27) (.tmp 28), none⟩,
       ⟨(some 22), .mov (.tmp 29), none⟩] [[], [0], [0, 1], [1, 0, 2], [2, 0, 1, 3], [], [3, 1, 0, 2, 5, 4], [4, 5, 2, 0, 1, 3, 6]])
     (.cond (.tmp 22)
       (.seq (.region [⟨(some 4), .mov (.const (.int .i64 9)), none⟩])
       .ret)
       (.seq (.region [⟨(some 31), .mov (.tmp 0), none⟩,
         ⟨(some 32), .nilc (.tmp 31), none⟩,
         ⟨(some 33), .faddr 0 (.tmp 32), none⟩,
         ⟨(some 34), .faddr 0 (.tmp 33), none⟩,
         ⟨(some 35), .load false 1 (.tmp 34), none⟩,
         ⟨(some 36), .len (.tmp 35), none⟩,
         ⟨(some 37), .bin .eql (.tmp 36) (.const (.int .i64 4000)), none⟩,
         ⟨(some 30), .mov (.tmp 37), none⟩])
       (.cond (.tmp 30)
         (.seq (.region [⟨(some 4), .mov (.const (.int .i64 27)), none⟩])
         .ret)
         .skip)))))))
  (.seq (.draw [⟨(some 38), .mov (.tmp 0), none⟩,
    ⟨(some 39), .nilc (.tmp 38), none⟩,
    ⟨(some 40), .faddr 0 (.tmp 39), none⟩,
    ⟨(some 41), .faddr 1 (.tmp 40), none⟩,
    ⟨(some 42), .load false 1 (.tmp 41), none⟩,
    ⟨(some 43), .load true 4 (.tmp 6), none⟩,
    ⟨none, .mset true [1, 1, 1, 1] (.tmp 42) (.tmp 43) (.const (.bool true)), none⟩] [[], [0], [0, 1], [1, 0, 2], [2, 0, 1, 3], [], [3, 2, 1, 0, 5, 4]])
  (.seq (.region [⟨(some 44), .mov (.tmp 0), none⟩,
    ⟨(some 45), .nilc (.tmp 44), none⟩,
    ⟨(some 46), .faddr 0 (.tmp 45), none⟩,
    ⟨(some 47), .mkf (q 16) [(.tmp 46)] [], none⟩,
    ⟨(some 7), .alloc [.nilFunc], none⟩,
    ⟨none, .store 1 (.tmp 7) (.tmp 47), none⟩])
  (.seq (.draw [⟨(some 49), .mov (.tmp 0), none⟩,
    ⟨(some 50), .nilc (.tmp 49), none⟩,
    ⟨(some 51), .faddr 0 (.tmp 50), none⟩,
    ⟨(some 52), .faddr 0 (.tmp 51), none⟩,
    ⟨(some 53), .load false 1 (.tmp 52), none⟩,
    ⟨(some 54), .load true 49 (.tmp 3), none⟩,
    ⟨(some 55), .mkf (q 21) [] [(.tmp 7)], none⟩,
    ⟨(some 56), .call 20 [(.tmp 53), (.tmp 54), (.tmp 55)], none⟩,
    ⟨(some 48), .mov (.tmp 56), none⟩,
    ⟨(some 57), .ext 0 (.tmp 48), none⟩,
    ⟨(some 58), .ext 1 (.tmp 48), none⟩,
    ⟨(some 8), .mov (.tmp 57), none⟩,
    ⟨(some 9), .mov (.tmp 58), none⟩] [[], [0], [0, 1], [1, 0, 2], [2, 0, 1, 3], [], [], [3, 1, 0, 2, 6, 5, 4], [4, 5, 6, 2, 0, 1, 3, 7], [7, 3, 1, 0, 2, 6, 5, 4, 8], [7, 3, 1, 0, 2, 6, 5, 4, 8], [8, 6, 5, 4, 3, 2, 1, 0, 7, 9], [9, 8, 7, 6, 5, 4, 3, 2, 1, 0, 11, 10]])
  (.seq (.region [⟨(some 59), .mov (.tmp 0), none⟩,
    ⟨(some 60), .mov (.tmp 0), none⟩,
    ⟨(some 61), .nilc (.tmp 60), none⟩,
    ⟨(some 62), .faddr 0 (.tmp 61), none⟩,
    ⟨(some 63), .faddr 0 (.tmp 62), none⟩,
    ⟨(some 64), .load false 1 (.tmp 63), none⟩,
    ⟨(some 65), .mov (.tmp 8), none⟩,
    ⟨(some 66), .bsl 1 [(.tmp 3)], none⟩,
    ⟨(some 67), .call 22 [(.tmp 64), (.tmp 65), (.tmp 66)], none⟩,
    ⟨(some 68), .nilc (.tmp 59), none⟩,
    ⟨(some 69), .faddr 0 (.tmp 68), none⟩,
    ⟨(some 70), .faddr 0 (.tmp 69), none⟩,
    ⟨none, .store 1 (.tmp 70) (.tmp 67), none⟩])
  (.seq (.region [⟨(some 4), .mov (.const (.int .i64 0)), none⟩])
  .ret))))))))))
def c_history_History_Add (q : Nat → Nat) : AFun := ⟨71, b_history_History_Add q, [(4, none)]⟩
/-- 14 pandect/history.New -/
def b_history_New : ACode := (.seq (.region [⟨(some 0), .mov (.const (.pointer none)), none⟩])
  (.seq (.region [⟨(some 1), .mkmap, none⟩,
    ⟨(some 2), .build [(.slice none 0 0), (.map none)] [(1, 1, (.tmp 1))], none⟩,
    ⟨(some 3), .build [(.slice none 0 0), (.map none)] [(0, 2, (.tmp 2))], none⟩,
    ⟨(some 4), .box (.tmp 3), none⟩,
    ⟨(some 0), .mov (.tmp 4), none⟩])
  .ret))
def c_history_New : AFun := ⟨5, b_history_New, [(0, none)]⟩
/-- 15 pandect/pandectlaw29.act -/
def b_pandectlaw29_act : ACode := (.seq (.region [⟨(some 10), .alloc [(.int .i64 0), (.int .i64 0), (.int .i64 0), (.int .i64 0), (.int .i64 0), (.string ⟨#[]⟩), (.int .i64 0), (.string ⟨#[]⟩), (.string ⟨#[]⟩), (.int .i64 0), (.slice none 0 0), (.slice none 0 0), (.slice none 0 0), (.slice none 0 0), (.string ⟨#[]⟩), (.string ⟨#[]⟩), (.int .i64 0), (.int .i64 0), (.int .i64 0), (.int .i64 0), (.string ⟨#[]⟩), (.int .i64 0), (.int .i64 0), (.slice none 0 0), (.int .i64 0), (.bool false), (.string ⟨#[]⟩), (.string ⟨#[]⟩), (.int .i64 0), (.string ⟨#[]⟩), (.string ⟨#[]⟩), (.int .i64 0), (.slice none 0 0), (.slice none 0 0), (.string ⟨#[]⟩), (.int .i64 0), (.slice none 0 0), (.string ⟨#[]⟩), (.int .i64 0), (.slice none 0 0), (.slice none 0 0), (.slice none 0 0), (.string ⟨#[]⟩), (.string ⟨#[]⟩), (.string ⟨#[]⟩), (.int .i64 0), (.int .i64 0), (.bool false), (.string ⟨#[]⟩)], none⟩])
  (.seq (.region [⟨(some 11), .mov (.tmp 0), none⟩,
    ⟨(some 12), .mov (.tmp 1), none⟩,
    ⟨(some 13), .mov (.tmp 2), none⟩,
    ⟨(some 14), .mov (.tmp 3), none⟩,
    ⟨(some 15), .mov (.tmp 4), none⟩,
    ⟨(some 16), .mov (.tmp 0), none⟩,
    ⟨(some 17), .build [(.int .i64 0), (.string ⟨#[]⟩), (.int .i64 0), (.string ⟨#[]⟩), (.string ⟨#[]⟩), (.int .i64 0), (.slice none 0 0), (.slice none 0 0), (.slice none 0 0), (.slice none 0 0), (.string ⟨#[]⟩), (.string ⟨#[]⟩), (.int .i64 0), (.int .i64 0), (.int .i64 0), (.int .i64 0), (.string ⟨#[]⟩), (.int .i64 0), (.int .i64 0), (.slice none 0 0), (.int .i64 0), (.bool false), (.string ⟨#[]⟩), (.string ⟨#[]⟩), (.int .i64 0), (.string ⟨#[]⟩), (.string ⟨#[]⟩), (.int .i64 0), (.slice none 0 0), (.slice none 0 0), (.string ⟨#[]⟩), (.int .i64 0), (.slice none 0 0), (.string ⟨#[]⟩), (.int .i64 0), (.slice none 0 0), (.slice none 0 0), (.slice none 0 0), (.string ⟨#[]⟩), (.string ⟨#[]⟩), (.string ⟨#[]⟩), (.int .i64 0), (.int .i64 0), (.bool false), (.string ⟨#[]⟩)] [(0, 1, (.const (.int .i64 3))), (1, 1, (.tmp 15)), (2, 1, (.tmp 16))], none⟩,
    ⟨(some 18), .build [(.int .i64 0), (.int .i64 0), (.int .i64 0), (.int .i64 0), (.int .i64 0), (.string ⟨#[]⟩), (.int .i64 0), (.string ⟨#[]⟩), (.string ⟨#[]⟩), (.int .i64 0), (.slice none 0 0), (.slice none 0 0), (.slice none 0 0), (.slice none 0 0), (.string ⟨#[]⟩), (.string ⟨#[]⟩), (.int .i64 0), (.int .i64 0), (.int .i64 0), (.int .i64 0), (.string ⟨#[]⟩), (.int .i64 0), (.int .i64 0), (.slice none 0 0), (.int .i64 0), (.bool false), (.string ⟨#[]⟩), (.string ⟨#[]⟩), (.int .i64 0), (.string ⟨#[]⟩), (.string ⟨#[]⟩), (.int .i64 0), (.slice none 0 0), (.slice none 0 0), (.string ⟨#[]⟩), (.int .i64 0), (.slice none 0 0), (.string ⟨#[]⟩), (.int .i64 0), (.slice none 0 0), (.slice none 0 0), (.slice none 0 0), (.string ⟨#[]⟩), (.string ⟨#[]⟩), (.string ⟨#[]⟩), (.int .i64 0), (.int .i64 0), (.bool false), (.string ⟨#[]⟩)] [(0, 1, (.tmp 11)), (1, 1, (.tmp 12)), (2, 1, (.tmp 13)), (3, 1, (.tmp 14)), (4, 45, (.tmp 17))], none⟩,
    ⟨none, .store 49 (.tmp 10) (.tmp 18), none⟩])
  .ret))
def c_pandectlaw29_act : AFun := ⟨19, b_pandectlaw29_act, [(10, some (true, 49))]⟩
/-- 16 (*pandect/history.list).Order -/
def b_history_list_Order : ACode := (.seq (.region [⟨(some 4), .box (.tmp 1), none⟩,
    ⟨(some 5), .box (.tmp 2), none⟩,
    ⟨(some 6), .mov (.const (.int .i64 0)), none⟩])
  (.seq (.draw [⟨(some 9), .load true 49 (.tmp 4), none⟩,
    ⟨(some 10), .call 18 [(.tmp 9)], none⟩,
    ⟨(some 11), .load true 49 (.tmp 5), none⟩,
    ⟨(some 12), .call 18 [(.tmp 11)], none⟩,
    ⟨(some 7), .alloc [(.int .i64 0), (.int .i64 0), (.int .i64 0), (.int .i64 0)], none⟩,
    ⟨(some 8), .alloc [(.int .i64 0), (.int .i64 0), (.int .i64 0), (.int .i64 0)], none⟩,
    ⟨none, .store 4 (.tmp 7) (.tmp 10), none⟩,
    ⟨none, .store 4 (.tmp 8) (.tmp 12), none⟩] [[], [0], [], [0, 1, 2], [], [], [2, 5, 0, 3, 1, 4], [4, 2, 1, 0, 6, 3, 5]])
  (.seq (.draw [⟨(some 13), .asl 1 4 (.tmp 7), none⟩,
    ⟨(some 14), .asl 1 4 (.tmp 8), none⟩,
    ⟨(some 15), .call 23 [(.tmp 13), (.tmp 14)], none⟩,
    ⟨(some 6), .mov (.tmp 15), none⟩] [[], [], [1, 0], [1, 0, 2]])
  .ret)))
def c_history_list_Order : AFun := ⟨16, b_history_list_Order, [(6, none)]⟩
/-- 17 pandect/pandectref29.Order -/
def b_pandectref29_Order : ACode := (.seq (.region [⟨(some 2), .box (.tmp 0), none⟩,
    ⟨(some 3), .box (.tmp 1), none⟩,
    ⟨(some 4), .mov (.const (.int .i64 0)), none⟩])
  (.seq (.seq (.region [⟨(some 5), .faddr 0 (.tmp 2), none⟩,
    ⟨(some 6), .load false 1 (.tmp 5), none⟩,
    ⟨(some 7), .faddr 0 (.tmp 3), none⟩,
    ⟨(some 8), .load false 1 (.tmp 7), none⟩,
    ⟨(some 9), .bin .neq (.tmp 6) (.tmp 8), none⟩])
  (.cond (.tmp 9)
    (.seq (.region [⟨(some 10), .faddr 0 (.tmp 2), none⟩,
      ⟨(some 11), .load false 1 (.tmp 10), none⟩,
      ⟨(some 12), .faddr 0 (.tmp 3), none⟩,
      ⟨(some 13), .load false 1 (.tmp 12), none⟩,
      ⟨(some 14), .call 24 [(.tmp 11), (.tmp 13)], none⟩,
      ⟨(some 4), .mov (.tmp 14), none⟩])
    .ret)
    .skip))
  (.seq (.seq (.region [⟨(some 15), .faddr 1 (.tmp 2), none⟩,
    ⟨(some 16), .load false 1 (.tmp 15), none⟩,
    ⟨(some 17), .faddr 1 (.tmp 3), none⟩,
    ⟨(some 18), .load false 1 (.tmp 17), none⟩,
    ⟨(some 19), .bin .neq (.tmp 16) (.tmp 18), none⟩])
  (.cond (.tmp 19)
    (.seq (.region [⟨(some 20), .faddr 1 (.tmp 2), none⟩,
      ⟨(some 21), .load false 1 (.tmp 20), none⟩,
      ⟨(some 22), .faddr 1 (.tmp 3), none⟩,
      ⟨(some 23), .load false 1 (.tmp 22), none⟩,
      ⟨(some 24), .call 24 [(.tmp 21), (.tmp 23)], none⟩,
      ⟨(some 4), .mov (.tmp 24), none⟩])
    .ret)
    .skip))
  (.seq (.seq (.region [⟨(some 25), .faddr 2 (.tmp 2), none⟩,
    ⟨(some 26), .load false 1 (.tmp 25), none⟩,
    ⟨(some 27), .faddr 2 (.tmp 3), none⟩,
    ⟨(some 28), .load false 1 (.tmp 27), none⟩,
    ⟨(some 29), .bin .neq (.tmp 26) (.tmp 28), none⟩])
  (.cond (.tmp 29)
    (.seq (.region [⟨(some 30), .faddr 2 (.tmp 2), none⟩,
      ⟨(some 31), .load false 1 (.tmp 30), none⟩,
      ⟨(some 32), .faddr 2 (.tmp 3), none⟩,
      ⟨(some 33), .load false 1 (.tmp 32), none⟩,
      ⟨(some 34), .call 24 [(.tmp 31), (.tmp 33)], none⟩,
      ⟨(some 4), .mov (.tmp 34), none⟩])
    .ret)
    .skip))
  (.seq (.region [⟨(some 35), .faddr 3 (.tmp 2), none⟩,
    ⟨(some 36), .load false 1 (.tmp 35), none⟩,
    ⟨(some 37), .faddr 3 (.tmp 3), none⟩,
    ⟨(some 38), .load false 1 (.tmp 37), none⟩,
    ⟨(some 39), .call 24 [(.tmp 36), (.tmp 38)], none⟩,
    ⟨(some 4), .mov (.tmp 39), none⟩])
  .ret)))))
def c_pandectref29_Order : AFun := ⟨40, b_pandectref29_Order, [(4, none)]⟩
/-- 18 pandect/history.of -/
def b_history_of : ACode := (.seq (.region [⟨(some 1), .box (.tmp 0), none⟩,
    ⟨(some 2), .alloc [(.int .i64 0), (.int .i64 0), (.int .i64 0), (.int .i64 0)], none⟩])
  (.seq (.region [⟨(some 3), .faddr 0 (.tmp 1), none⟩,
    ⟨(some 4), .load false 1 (.tmp 3), none⟩,
    ⟨(some 5), .faddr 1 (.tmp 1), none⟩,
    ⟨(some 6), .load false 1 (.tmp 5), none⟩,
    ⟨(some 7), .faddr 2 (.tmp 1), none⟩,
    ⟨(some 8), .load false 1 (.tmp 7), none⟩,
    ⟨(some 9), .faddr 3 (.tmp 1), none⟩,
    ⟨(some 10), .load false 1 (.tmp 9), none⟩,
    ⟨(some 11), .build [(.int .i64 0), (.int .i64 0), (.int .i64 0), (.int .i64 0)] [(0, 1, (.tmp 4)), (1, 1, (.tmp 6)), (2, 1, (.tmp 8)), (3, 1, (.tmp 10))], none⟩,
    ⟨none, .store 4 (.tmp 2) (.tmp 11), none⟩])
  .ret))
def c_history_of : AFun := ⟨12, b_history_of, [(2, some (true, 4))]⟩
/-- 19 (pandect/history.place).valid -/
def b_history_place_valid : ACode := (.seq (.region [⟨(some 1), .box (.tmp 0), none⟩,
    ⟨(some 2), .mov (.const (.bool false)), none⟩])
  (.seq (.region [⟨(some 3), .aaddr 4 1 (.tmp 1) (.const (.int .i64 0)), none⟩,
    ⟨(some 4), .load false 1 (.tmp 3), none⟩,
    ⟨(some 5), .bin .geq (.tmp 4) (.const (.int .i64 0)), none⟩,
    ⟨(some 6), .mov (.tmp 5), none⟩,
    ⟨(some 7), .aaddr 4 1 (.tmp 1) (.const (.int .i64 0)), (some (6, true))⟩,
    ⟨(some 8), .load false 1 (.tmp 7), (some (6, true))⟩,
    ⟨(some 9), .bin .leq (.tmp 8) (.const (.int .i64 1000000)), (some (6, true))⟩,
    ⟨(some 10), .pick (.tmp 6) (.tmp 9) (.const (.bool false)), none⟩,
    ⟨(some 11), .mov (.tmp 10), none⟩,
    ⟨(some 12), .aaddr 4 1 (.tmp 1) (.const (.int .i64 1)), (some (11, true))⟩,
    ⟨(some 13), .load false 1 (.tmp 12), (some (11, true))⟩,
    ⟨(some 14), .bin .geq (.tmp 13) (.const (.int .i64 0)), (some (11, true))⟩,
    ⟨(some 15), .pick (.tmp 11) (.tmp 14) (.const (.bool false)), none⟩,
    ⟨(some 16), .mov (.tmp 15), none⟩,
    ⟨(some 17), .aaddr 4 1 (.tmp 1) (.const (.int .i64 1)), (some (16, true))⟩,
    ⟨(some 18), .load false 1 (.tmp 17), (some (16, true))⟩,
    ⟨(some 19), .bin .lss (.tmp 18) (.const (.int .i64 8)), (some (16, true))⟩,
    ⟨(some 20), .pick (.tmp 16) (.tmp 19) (.const (.bool false)), none⟩,
    ⟨(some 21), .mov (.tmp 20), none⟩,
    ⟨(some 22), .aaddr 4 1 (.tmp 1) (.const (.int .i64 2)), (some (21, true))⟩,
    ⟨(some 23), .load false 1 (.tmp 22), (some (21, true))⟩,
    ⟨(some 24), .bin .geq (.tmp 23) (.const (.int .i64 1)), (some (21, true))⟩,
    ⟨(some 25), .pick (.tmp 21) (.tmp 24) (.const (.bool false)), none⟩,
    ⟨(some 26), .mov (.tmp 25), none⟩,
    ⟨(some 27), .aaddr 4 1 (.tmp 1) (.const (.int .i64 2)), (some (26, true))⟩,
    ⟨(some 28), .load false 1 (.tmp 27), (some (26, true))⟩,
    ⟨(some 29), .bin .leq (.tmp 28) (.const (.int .i64 1000)), (some (26, true))⟩,
    ⟨(some 30), .pick (.tmp 26) (.tmp 29) (.const (.bool false)), none⟩,
    ⟨(some 31), .mov (.tmp 30), none⟩,
    ⟨(some 32), .aaddr 4 1 (.tmp 1) (.const (.int .i64 3)), (some (31, true))⟩,
    ⟨(some 33), .load false 1 (.tmp 32), (some (31, true))⟩,
    ⟨(some 34), .bin .geq (.tmp 33) (.const (.int .i64 0)), (some (31, true))⟩,
    ⟨(some 35), .pick (.tmp 31) (.tmp 34) (.const (.bool false)), none⟩,
    ⟨(some 36), .mov (.tmp 35), none⟩,
    ⟨(some 37), .aaddr 4 1 (.tmp 1) (.const (.int .i64 3)), (some (36, true))⟩,
    ⟨(some 38), .load false 1 (.tmp 37), (some (36, true))⟩,
    ⟨(some 39), .bin .lss (.tmp 38) (.const (.int .i64 4000)), (some (36, true))⟩,
    ⟨(some 40), .pick (.tmp 36) (.tmp 39) (.const (.bool false)), none⟩,
    ⟨(some 2), .mov (.tmp 40), none⟩])
  .ret))
def c_history_place_valid : AFun := ⟨41, b_history_place_valid, [(2, none)]⟩
/-- 20 slices.BinarySearchFunc[[]*pandect/api.Known,*pandect/api.Known,pandect/api.Known] -/
def l_slices_BinarySearchFunc_0 : ACode := (.seq (.seq (.region [⟨(some 15), .mov (.tmp 9), none⟩,
      ⟨(some 16), .mov (.tmp 10), none⟩,
      ⟨(some 17), .bin .lss (.tmp 15) (.tmp 16), none⟩])
    (.cond (.tmp 17)
      .skip
      (.exit 0)))
    (.block 1 (.seq (.region [⟨(some 18), .mov (.tmp 9), none⟩,
       ⟨(some 19), .mov (.tmp 10), none⟩,
       ⟨(some 20), .bin .add (.tmp 18) (.tmp 19), none⟩,
       ⟨(some 21), .convi .u64 (.tmp 20), none⟩,
       ⟨(some 22), .bin .shr (.tmp 21) (.const (.int .u64 1)), none⟩,
       ⟨(some 23), .convi .i64 (.tmp 22), none⟩,
       ⟨(some 11), .mov (.tmp 23), none⟩])
     (.seq (.draw [⟨(some 24), .mov (.tmp 2), none⟩,
       ⟨(some 25), .mov (.tmp 0), none⟩,
       ⟨(some 26), .mov (.tmp 11), none⟩,
       ⟨(some 27), .iaddr 1 (.tmp 25) (.tmp 26), none⟩,
       ⟨(some 28), .load false 1 (.tmp 27), none⟩,
       ⟨(some 29), .load true 49 (.tmp 4), none⟩,
       ⟨(some 30), .callv (.tmp 24) [(.tmp 28), (.tmp 29)], none⟩,
       ⟨(some 31), .bin .lss (.tmp 30) (.const (.int .i64 0)), none⟩] [[], [], [], [2, 1], [1, 2, 3], [], [3, 2, 1, 5, 4, 0], [0, 4, 5, 1, 2, 3, 6]])
     (.cond (.tmp 31)
       (.region [⟨(some 32), .mov (.tmp 11), none⟩,
         ⟨(some 33), .bin .add (.tmp 32) (.const (.int .i64 1)), none⟩,
         ⟨(some 9), .mov (.tmp 33), none⟩])
       (.region [⟨(some 34), .mov (.tmp 11), none⟩,
         ⟨(some 10), .mov (.tmp 34), none⟩]))))))
def b_slices_BinarySearchFunc : ACode := (.seq (.region [⟨(some 4), .box (.tmp 1), none⟩,
    ⟨(some 6), .mov (.const (.int .i64 0)), none⟩,
    ⟨(some 7), .mov (.const (.bool false)), none⟩])
  (.seq (.region [⟨(some 12), .mov (.tmp 0), none⟩,
    ⟨(some 13), .len (.tmp 12), none⟩,
    ⟨(some 8), .mov (.tmp 13), none⟩])
  (.seq (.region [⟨(some 14), .mov (.tmp 8), none⟩,
    ⟨(some 9), .mov (.const (.int .i64 0)), none⟩,
    ⟨(some 10), .mov (.tmp 14), none⟩])
  (.seq (.block 0 (.loop l_slices_BinarySearchFunc_0))
  (.seq (.draw [⟨(some 35), .mov (.tmp 9), none⟩,
    ⟨(some 36), .mov (.tmp 9), none⟩,
    ⟨(some 37), .mov (.tmp 8), none⟩,
    ⟨(some 38), .bin .lss (.tmp 36) (.tmp 37), none⟩,
    ⟨(some 39), .mov (.tmp 38), none⟩,
    ⟨(some 40), .mov (.tmp 2), (some (39, true))⟩,
    ⟨(some 41), .mov (.tmp 0), (some (39, true))⟩,
    ⟨(some 42), .mov (.tmp 9), (some (39, true))⟩,
    ⟨(some 43), .iaddr 1 (.tmp 41) (.tmp 42), (some (39, true))⟩,
    ⟨(some 44), .load false 1 (.tmp 43), (some (39, true))⟩,
    ⟨(some 45), .load true 49 (.tmp 4), (some (39, true))⟩,
    ⟨(some 46), .callv (.tmp 40) [(.tmp 44), (.tmp 45)], (some (39, true))⟩,
    ⟨(some 47), .bin .eql (.tmp 46) (.const (.int .i64 0)), (some (39, true))⟩,
    ⟨(some 48), .pick (.tmp 39) (.tmp 47) (.const (.bool false)), none⟩,
    ⟨(some 6), .mov (.tmp 35), none⟩,
    ⟨(some 7), .mov (.tmp 48), none⟩] [[], [], [], [2, 1], [1, 2, 3], [3, 2, 1, 4], [3, 2, 1, 4], [3, 2, 1, 4], [1, 2, 3, 4, 7, 6], [6, 7, 3, 2, 1, 4, 8], [3, 2, 1, 4], [8, 7, 6, 1, 2, 3, 4, 10, 9, 5], [5, 9, 10, 3, 2, 1, 6, 7, 8, 4, 11], [11, 8, 7, 6, 10, 9, 5, 3, 2, 1, 12, 4], [5, 9, 10, 4, 3, 2, 1, 6, 7, 8, 11, 0], [12, 11, 10, 9, 8, 7, 6, 5, 4, 3, 2, 1, 0, 14, 13]])
  .ret)))))
def c_slices_BinarySearchFunc : AFun := ⟨49, b_slices_BinarySearchFunc, [(6, none), (7, none)]⟩
/-- 21 (*pandect/history.History).Addd1 -/
def b_history_History_Add_d1 : ACode := (.seq (.region [⟨(some 4), .box (.tmp 1), none⟩,
    ⟨(some 5), .mov (.const (.int .i64 0)), none⟩])
  (.seq (.draw [⟨(some 6), .load false 1 (.tmp 2), none⟩,
    ⟨(some 7), .mov (.tmp 0), none⟩,
    ⟨(some 8), .nilc (.tmp 7), none⟩,
    ⟨(some 9), .load true 49 (.tmp 8), none⟩,
    ⟨(some 10), .load true 49 (.tmp 4), none⟩,
    ⟨(some 11), .callv (.tmp 6) [(.tmp 9), (.tmp 10)], none⟩,
    ⟨(some 5), .mov (.tmp 11), none⟩] [[], [], [1], [1, 2], [], [2, 1, 4, 3, 0], [4, 3, 2, 1, 0, 5]])
  .ret))
def c_history_History_Add_d1 : AFun := ⟨12, b_history_History_Add_d1, [(5, none)]⟩
/-- 22 slices.Insert[[]*pandect/api.Known,*pandect/api.Known] -/
def b_slices_Insert (h : Nat → Nat → Op) : ACode := (.seq (.region [⟨(some 6), .mov (.const (.slice none 0 0)), none⟩])
  (.seq (.region [⟨(some 10), .mov (.tmp 0), none⟩,
    ⟨(some 11), .mov (.tmp 1), none⟩,
    ⟨(some 12), .slc 1 (.tmp 10) (some (.tmp 11)) none none, none⟩])
  (.seq (.region [⟨(some 13), .mov (.tmp 2), none⟩,
    ⟨(some 14), .len (.tmp 13), none⟩,
    ⟨(some 7), .mov (.tmp 14), none⟩])
  (.seq (.seq (.region [⟨(some 15), .mov (.tmp 7), none⟩,
    ⟨(some 16), .bin .eql (.tmp 15) (.const (.int .i64 0)), none⟩])
  (.cond (.tmp 16)
    (.seq (.region [⟨(some 17), .mov (.tmp 0), none⟩,
      ⟨(some 6), .mov (.tmp 17), none⟩])
    .ret)
    .skip))
  (.seq (.region [⟨(some 18), .mov (.tmp 0), none⟩,
    ⟨(some 19), .len (.tmp 18), none⟩,
    ⟨(some 8), .mov (.tmp 19), none⟩])
  (.seq (.seq (.region [⟨(some 20), .mov (.tmp 1), none⟩,
    ⟨(some 21), .mov (.tmp 8), none⟩,
    ⟨(some 22), .bin .eql (.tmp 20) (.tmp 21), none⟩])
  (.cond (.tmp 22)
    (.seq (.region [⟨(some 23), .mov (.tmp 0), none⟩,
      ⟨(some 24), .mov (.tmp 2), none⟩,
      ⟨(some 25), .app 1 8 (.tmp 23) (.tmp 24), none⟩,
      ⟨(some 6), .mov (.tmp 25), none⟩])
    .ret)
    .skip))
  (.seq (.seq (.region [⟨(some 26), .mov (.tmp 8), none⟩,
    ⟨(some 27), .mov (.tmp 7), none⟩,
    ⟨(some 28), .bin .add (.tmp 26) (.tmp 27), none⟩,
    ⟨(some 29), .mov (.tmp 0), none⟩,
    ⟨(some 30), .capv (.tmp 29), none⟩,
    ⟨(some 31), .bin .gtr (.tmp 28) (.tmp 30), none⟩])
  (.cond (.tmp 31)
    (.seq (.region [⟨(some 32), .mov (.tmp 0), none⟩,
      ⟨(some 33), .mov (.tmp 1), none⟩,
      ⟨(some 34), .slc 1 (.tmp 32) none (some (.tmp 33)) none, none⟩,
      ⟨(some 35), .mov (.tmp 8), none⟩,
      ⟨(some 36), .mov (.tmp 7), none⟩,
      ⟨(some 37), .bin .add (.tmp 35) (.tmp 36), none⟩,
      ⟨(some 38), .mov (.tmp 1), none⟩,
      ⟨(some 39), .bin .sub (.tmp 37) (.tmp 38), none⟩,
      ⟨(some 40), .appz 1 8 [(.pointer none)] (.tmp 34) (.tmp 39), none⟩,
      ⟨(some 9), .mov (.tmp 40), none⟩])
    (.seq (.region [⟨(some 41), .mov (.tmp 9), none⟩,
      ⟨(some 42), .mov (.tmp 1), none⟩,
      ⟨(some 43), .slc 1 (.tmp 41) (some (.tmp 42)) none none, none⟩,
      ⟨(some 44), .mov (.tmp 2), none⟩,
      ⟨(some 45), .cpy 1 (.tmp 43) (.tmp 44), none⟩])
    (.seq (.draw [⟨(some 46), .mov (.tmp 9), none⟩,
      ⟨(some 47), .mov (.tmp 1), none⟩,
      ⟨(some 48), .mov (.tmp 7), none⟩,
      ⟨(some 49), .bin .add (.tmp 47) (.tmp 48), none⟩,
      ⟨(some 50), .slc 1 (.tmp 46) (some (.tmp 49)) none none, none⟩,
      ⟨(some 51), .mov (.tmp 0), none⟩,
      ⟨(some 52), .mov (.tmp 1), none⟩,
      ⟨(some 53), .slc 1 (.tmp 51) (some (.tmp 52)) none none, none⟩,
      ⟨(some 54), .cpy 1 (.tmp 50) (.tmp 53), none⟩] [[], [], [], [2, 1], [1, 2, 3, 0], [], [], [6, 5], [5, 6, 0, 3, 2, 1, 7, 4]])
    (.seq (.region [⟨(some 55), .mov (.tmp 9), none⟩,
      ⟨(some 6), .mov (.tmp 55), none⟩])
    .ret))))
    .skip))
  (.seq (.region [⟨(some 56), .mov (.tmp 0), none⟩,
    ⟨(some 57), .mov (.tmp 8), none⟩,
    ⟨(some 58), .mov (.tmp 7), none⟩,
    ⟨(some 59), .bin .add (.tmp 57) (.tmp 58), none⟩,
    ⟨(some 60), .slc 1 (.tmp 56) none (some (.tmp 59)) none, none⟩,
    ⟨(some 0), .mov (.tmp 60), none⟩])
  (.seq (.seq (.region [⟨(some 61), .mov (.tmp 2), none⟩,
    ⟨(some 62), .mov (.tmp 0), none⟩,
    ⟨(some 63), .mov (.tmp 1), none⟩,
    ⟨(some 64), .mov (.tmp 7), none⟩,
    ⟨(some 65), .bin .add (.tmp 63) (.tmp 64), none⟩,
    ⟨(some 66), .slc 1 (.tmp 62) (some (.tmp 65)) none none, none⟩,
    ⟨(some 67), .hard (h 14 6), none⟩,
    ⟨(some 68), .un .not (.tmp 67), none⟩])
  (.cond (.tmp 68)
    (.seq (.draw [⟨(some 69), .mov (.tmp 0), none⟩,
      ⟨(some 70), .mov (.tmp 1), none⟩,
      ⟨(some 71), .mov (.tmp 7), none⟩,
      ⟨(some 72), .bin .add (.tmp 70) (.tmp 71), none⟩,
      ⟨(some 73), .slc 1 (.tmp 69) (some (.tmp 72)) none none, none⟩,
      ⟨(some 74), .mov (.tmp 0), none⟩,
      ⟨(some 75), .mov (.tmp 1), none⟩,
      ⟨(some 76), .slc 1 (.tmp 74) (some (.tmp 75)) none none, none⟩,
      ⟨(some 77), .cpy 1 (.tmp 73) (.tmp 76), none⟩] [[], [], [], [2, 1], [1, 2, 3, 0], [], [], [6, 5], [5, 6, 0, 3, 2, 1, 7, 4]])
    (.seq (.region [⟨(some 78), .mov (.tmp 0), none⟩,
      ⟨(some 79), .mov (.tmp 1), none⟩,
      ⟨(some 80), .slc 1 (.tmp 78) (some (.tmp 79)) none none, none⟩,
      ⟨(some 81), .mov (.tmp 2), none⟩,
      ⟨(some 82), .cpy 1 (.tmp 80) (.tmp 81), none⟩])
    (.seq (.region [⟨(some 83), .mov (.tmp 0), none⟩,
      ⟨(some 6), .mov (.tmp 83), none⟩])
    .ret)))
    .skip))
  (.seq (.region [⟨(some 84), .mov (.tmp 0), none⟩,
    ⟨(some 85), .mov (.tmp 8), none⟩,
    ⟨(some 86), .slc 1 (.tmp 84) (some (.tmp 85)) none none, none⟩,
    ⟨(some 87), .mov (.tmp 2), none⟩,
    ⟨(some 88), .cpy 1 (.tmp 86) (.tmp 87), none⟩])
  (.seq (.region [⟨(some 89), .mov (.tmp 0), none⟩,
    ⟨(some 90), .mov (.tmp 1), none⟩,
    ⟨(some 91), .slc 1 (.tmp 89) (some (.tmp 90)) none none, none⟩,
    ⟨(some 92), .mov (.tmp 7), none⟩,
    ⟨(some 93), .call 26 [(.tmp 91), (.tmp 92)], none⟩])
  (.seq (.region [⟨(some 94), .mov (.tmp 0), none⟩,
    ⟨(some 6), .mov (.tmp 94), none⟩])
  .ret))))))))))))
def c_slices_Insert (h : Nat → Nat → Op) : AFun := ⟨95, b_slices_Insert h, [(6, none)]⟩
/-- 23 pandect/history.compare[int] -/
def l_history_compare_int__0 : ACode := (.seq (.region [⟨(some 11), .bin .lss (.tmp 10) (.tmp 9), none⟩])
    (.seq (.cond (.tmp 11)
      .skip
      (.exit 0))
    (.seq (.block 1 (.seq (.region [⟨(some 12), .mov (.tmp 10), none⟩,
       ⟨(some 13), .iaddr 1 (.tmp 8) (.tmp 10), none⟩,
       ⟨(some 14), .load false 1 (.tmp 13), none⟩,
       ⟨(some 5), .mov (.tmp 12), none⟩,
       ⟨(some 6), .mov (.tmp 14), none⟩])
     (.seq (.region [⟨(some 15), .mov (.tmp 6), none⟩,
       ⟨(some 16), .mov (.tmp 1), none⟩,
       ⟨(some 17), .mov (.tmp 5), none⟩,
       ⟨(some 18), .iaddr 1 (.tmp 16) (.tmp 17), none⟩,
       ⟨(some 19), .load false 1 (.tmp 18), none⟩,
       ⟨(some 20), .call 27 [(.tmp 15), (.tmp 19)], none⟩,
       ⟨(some 7), .mov (.tmp 20), none⟩])
     (.seq (.region [⟨(some 21), .mov (.tmp 7), none⟩,
       ⟨(some 22), .bin .neq (.tmp 21) (.const (.int .i64 0)), none⟩])
     (.cond (.tmp 22)
       (.seq (.region [⟨(some 23), .mov (.tmp 7), none⟩,
         ⟨(some 4), .mov (.tmp 23), none⟩])
       .ret)
       .skip)))))
    (.region [⟨(some 24), .bin .add (.tmp 10) (.const (.int .i64 1)), none⟩,
      ⟨(some 10), .mov (.tmp 24), none⟩]))))
def b_history_compare_int_ : ACode := (.seq (.region [⟨(some 4), .mov (.const (.int .i64 0)), none⟩])
  (.seq (.seq (.region [⟨(some 8), .mov (.tmp 0), none⟩,
    ⟨(some 9), .len (.tmp 8), none⟩,
    ⟨(some 10), .mov (.const (.int .i64 0)), none⟩])
  (.block 0 (.loop l_history_compare_int__0)))
  (.seq (.region [⟨(some 4), .mov (.const (.int .i64 0)), none⟩])
  .ret)))
def c_history_compare_int_ : AFun := ⟨25, b_history_compare_int_, [(4, none)]⟩
/-- 24 pandect/pandectref29.sign -/
def b_pandectref29_sign : ACode := (.seq (.region [⟨(some 4), .mov (.const (.int .i64 0)), none⟩])
  (.seq (.seq (.region [⟨(some 5), .mov (.tmp 0), none⟩,
    ⟨(some 6), .mov (.tmp 1), none⟩,
    ⟨(some 7), .bin .lss (.tmp 5) (.tmp 6), none⟩])
  (.cond (.tmp 7)
    (.seq (.region [⟨(some 4), .mov (.const (.int .i64 (-1))), none⟩])
    .ret)
    .skip))
  (.seq (.seq (.region [⟨(some 8), .mov (.tmp 0), none⟩,
    ⟨(some 9), .mov (.tmp 1), none⟩,
    ⟨(some 10), .bin .gtr (.tmp 8) (.tmp 9), none⟩])
  (.cond (.tmp 10)
    (.seq (.region [⟨(some 4), .mov (.const (.int .i64 1)), none⟩])
    .ret)
    .skip))
  (.seq (.region [⟨(some 4), .mov (.const (.int .i64 0)), none⟩])
  .ret))))
def c_pandectref29_sign : AFun := ⟨11, b_pandectref29_sign, [(4, none)]⟩
/-- 26 slices.rotateRight[*pandect/api.Known] -/
def b_slices_rotateRight : ACode := (.region [⟨(some 4), .mov (.tmp 0), none⟩,
    ⟨(some 5), .mov (.tmp 0), none⟩,
    ⟨(some 6), .len (.tmp 5), none⟩,
    ⟨(some 7), .mov (.tmp 1), none⟩,
    ⟨(some 8), .bin .sub (.tmp 6) (.tmp 7), none⟩,
    ⟨(some 9), .call 28 [(.tmp 4), (.tmp 8)], none⟩])
def c_slices_rotateRight : AFun := ⟨10, b_slices_rotateRight, []⟩
/-- 27 cmp.Compare[int] -/
def b_cmp_Compare_int_ : ACode := (.seq (.region [⟨(some 4), .mov (.const (.int .i64 0)), none⟩])
  (.seq (.region [⟨(some 7), .mov (.tmp 0), none⟩,
    ⟨(some 8), .call 29 [(.tmp 7)], none⟩,
    ⟨(some 5), .mov (.tmp 8), none⟩])
  (.seq (.region [⟨(some 9), .mov (.tmp 1), none⟩,
    ⟨(some 10), .call 29 [(.tmp 9)], none⟩,
    ⟨(some 6), .mov (.tmp 10), none⟩])
  (.seq (.seq (.region [⟨(some 11), .mov (.tmp 5), none⟩])
  (.cond (.tmp 11)
    (.seq (.seq (.region [⟨(some 12), .mov (.tmp 6), none⟩])
    (.cond (.tmp 12)
      (.seq (.region [⟨(some 4), .mov (.const (.int .i64 0)), none⟩])
      .ret)
      .skip))
    (.seq (.region [⟨(some 4), .mov (.const (.int .i64 (-1))), none⟩])
    .ret))
    .skip))
  (.seq (.seq (.region [⟨(some 13), .mov (.tmp 6), none⟩])
  (.cond (.tmp 13)
    (.seq (.region [⟨(some 4), .mov (.const (.int .i64 1)), none⟩])
    .ret)
    .skip))
  (.seq (.seq (.region [⟨(some 14), .mov (.tmp 0), none⟩,
    ⟨(some 15), .mov (.tmp 1), none⟩,
    ⟨(some 16), .bin .lss (.tmp 14) (.tmp 15), none⟩])
  (.cond (.tmp 16)
    (.seq (.region [⟨(some 4), .mov (.const (.int .i64 (-1))), none⟩])
    .ret)
    .skip))
  (.seq (.seq (.region [⟨(some 17), .mov (.tmp 0), none⟩,
    ⟨(some 18), .mov (.tmp 1), none⟩,
    ⟨(some 19), .bin .gtr (.tmp 17) (.tmp 18), none⟩])
  (.cond (.tmp 19)
    (.seq (.region [⟨(some 4), .mov (.const (.int .i64 1)), none⟩])
    .ret)
    .skip))
  (.seq (.region [⟨(some 4), .mov (.const (.int .i64 0)), none⟩])
  .ret))))))))
def c_cmp_Compare_int_ : AFun := ⟨20, b_cmp_Compare_int_, [(4, none)]⟩
/-- 28 slices.rotateLeft[*pandect/api.Known] -/
def b_slices_rotateLeft : ACode := (.seq (.region [⟨(some 4), .mov (.tmp 0), none⟩,
    ⟨(some 5), .mov (.tmp 1), none⟩,
    ⟨(some 6), .slc 1 (.tmp 4) none (some (.tmp 5)) none, none⟩,
    ⟨(some 7), .call 30 [(.tmp 6)], none⟩])
  (.seq (.region [⟨(some 8), .mov (.tmp 0), none⟩,
    ⟨(some 9), .mov (.tmp 1), none⟩,
    ⟨(some 10), .slc 1 (.tmp 8) (some (.tmp 9)) none none, none⟩,
    ⟨(some 11), .call 30 [(.tmp 10)], none⟩])
  (.region [⟨(some 12), .mov (.tmp 0), none⟩,
    ⟨(some 13), .call 30 [(.tmp 12)], none⟩])))
def c_slices_rotateLeft : AFun := ⟨14, b_slices_rotateLeft, []⟩
/-- 29 cmp.isNaN[int] -/
def b_cmp_isNaN_int_ : ACode := (.seq (.region [⟨(some 2), .mov (.const (.bool false)), none⟩])
  (.seq (.region [⟨(some 3), .mov (.tmp 0), none⟩,
    ⟨(some 4), .mov (.tmp 0), none⟩,
    ⟨(some 5), .bin .neq (.tmp 3) (.tmp 4), none⟩,
    ⟨(some 2), .mov (.tmp 5), none⟩])
  .ret))
def c_cmp_isNaN_int_ : AFun := ⟨6, b_cmp_isNaN_int_, [(2, none)]⟩
/-- 30 slices.Reverse[[]*pandect/api.Known,*pandect/api.Known] -/
def l_slices_Reverse_0 : ACode := (.seq (.seq (.region [⟨(some 7), .mov (.tmp 2), none⟩,
      ⟨(some 8), .mov (.tmp 3), none⟩,
      ⟨(some 9), .bin .lss (.tmp 7) (.tmp 8), none⟩])
    (.cond (.tmp 9)
      .skip
      (.exit 0)))
    (.seq (.block 1 (.draw [⟨(some 14), .mov (.tmp 0), none⟩,
       ⟨(some 15), .mov (.tmp 2), none⟩,
       ⟨(some 16), .mov (.tmp 0), none⟩,
       ⟨(some 17), .mov (.tmp 3), none⟩,
       ⟨(some 18), .mov (.tmp 0), none⟩,
       ⟨(some 19), .mov (.tmp 3), none⟩,
       ⟨(some 20), .iaddr 1 (.tmp 18) (.tmp 19), none⟩,
       ⟨(some 21), .load false 1 (.tmp 20), none⟩,
       ⟨(some 22), .mov (.tmp 0), none⟩,
       ⟨(some 23), .mov (.tmp 2), none⟩,
       ⟨(some 24), .iaddr 1 (.tmp 22) (.tmp 23), none⟩,
       ⟨(some 25), .load false 1 (.tmp 24), none⟩,
       ⟨(some 26), .iaddr 1 (.tmp 14) (.tmp 15), none⟩,
       ⟨none, .store 1 (.tmp 26) (.tmp 21), none⟩,
       ⟨(some 27), .iaddr 1 (.tmp 16) (.tmp 17), none⟩,
       ⟨none, .store 1 (.tmp 27) (.tmp 25), none⟩] [[], [], [], [], [], [], [5, 4], [4, 5, 6], [], [], [9, 8], [8, 9, 10], [10, 9, 8, 11, 7, 6, 5, 4, 1, 0], [8, 9, 10, 11, 6, 5, 4, 1, 0, 7, 12], [13, 12, 11, 10, 9, 8, 7, 6, 5, 4, 1, 0, 3, 2], [12, 10, 9, 8, 7, 6, 5, 4, 3, 2, 1, 0, 13, 11, 14]]))
    (.region [⟨(some 10), .mov (.tmp 2), none⟩,
      ⟨(some 11), .bin .add (.tmp 10) (.const (.int .i64 1)), none⟩,
      ⟨(some 12), .mov (.tmp 3), none⟩,
      ⟨(some 13), .bin .sub (.tmp 12) (.const (.int .i64 1)), none⟩,
      ⟨(some 2), .mov (.tmp 11), none⟩,
      ⟨(some 3), .mov (.tmp 13), none⟩])))
def b_slices_Reverse : ACode := (.seq (.region [⟨(some 4), .mov (.tmp 0), none⟩,
    ⟨(some 5), .len (.tmp 4), none⟩,
    ⟨(some 6), .bin .sub (.tmp 5) (.const (.int .i64 1)), none⟩,
    ⟨(some 2), .mov (.const (.int .i64 0)), none⟩,
    ⟨(some 3), .mov (.tmp 6), none⟩])
  (.block 0 (.loop l_slices_Reverse_0)))
def c_slices_Reverse : AFun := ⟨28, b_slices_Reverse, []⟩
/-- The program has these functions. -/
structure Lay (P : Program) (T : List Nat) : Prop where
  len : 166 ≤ T.length
  t_pandectlaw29_HistoryOrders : Tied P T 0 (c_pandectlaw29_HistoryOrders)
  t_pandectlaw29_HistoryArrives : Tied P T 1 (c_pandectlaw29_HistoryArrives)
  t_pandectlaw29_HistoryLater : Tied P T 2 (c_pandectlaw29_HistoryLater)
  t_pandectlaw29_HistorySince : Tied P T 3 (c_pandectlaw29_HistorySince)
  t_pandectlaw29_HistoryRefuses : Tied P T 4 (c_pandectlaw29_HistoryRefuses)
  t_pandectlaw29_head : Tied P T 5 (c_pandectlaw29_head)
  t_pandectlaw29_added : Tied P T 6 (c_pandectlaw29_added)
  t_history_History_At : Tied P T 7 (c_history_History_At)
  t_history_History_Order : Tied P T 8 (c_history_History_Order)
  t_pandectref29_Equal : Tied P T 9 (c_pandectref29_Equal)
  t_pandectref29_Same : Tied P T 10 (c_pandectref29_Same)
  t_history_History_Since : Tied P T 11 (c_history_History_Since)
  t_pandectlaw29_has : Tied P T 12 (c_pandectlaw29_has)
  t_history_History_Add : Tied P T 13 (c_history_History_Add (T.getD · 0))
  t_history_New : Tied P T 14 (c_history_New)
  t_pandectlaw29_act : Tied P T 15 (c_pandectlaw29_act)
  t_history_list_Order : Tied P T 16 (c_history_list_Order)
  t_pandectref29_Order : Tied P T 17 (c_pandectref29_Order)
  t_history_of : Tied P T 18 (c_history_of)
  t_history_place_valid : Tied P T 19 (c_history_place_valid)
  t_slices_BinarySearchFunc : Tied P T 20 (c_slices_BinarySearchFunc)
  t_history_History_Add_d1 : Tied P T 21 (c_history_History_Add_d1)
  t_slices_Insert : Tied P T 22 (c_slices_Insert (opsOf P T 22))
  t_history_compare_int_ : Tied P T 23 (c_history_compare_int_)
  t_pandectref29_sign : Tied P T 24 (c_pandectref29_sign)
  t_slices_rotateRight : Tied P T 26 (c_slices_rotateRight)
  t_cmp_Compare_int_ : Tied P T 27 (c_cmp_Compare_int_)
  t_slices_rotateLeft : Tied P T 28 (c_slices_rotateLeft)
  t_cmp_isNaN_int_ : Tied P T 29 (c_cmp_isNaN_int_)
  t_slices_Reverse : Tied P T 30 (c_slices_Reverse)
end Go.Av
