/- The functions that the seat reaches, in the interpreter's own code (by gen.py from the loaded program; checked against it in the text behind). -/
import Derived.Test.YtjmhkbnhfpgciaaAbs
namespace Go.Proofs.Ytjmhkbnhfpgciaa.A
open Go

/- sequitur/sequiturlaw09.BindOpens -/
def F3 : AF :=
  { ntmps := 21, results := [.tmp 4], pure := true, body :=
    .seq
      (.ops [⟨some 2, .box 25 (.t 0), none⟩, 
          ⟨some 3, .box 27 (.t 1), none⟩, 
          ⟨some 4, .move (.c (.bool false)), none⟩] false)
      (.seq
        (.seq
          (.ops [⟨some 5, .call 9 [], none⟩, 
              ⟨some 6, .not (.t 5), none⟩] false)
          (.cond (.t 6)
            (.seq
              (.ops [⟨some 4, .move (.c (.bool false)), none⟩] false)
              (.ret))
            (.skip)))
        (.seq
          (.seq
            (.ops [⟨some 7, .load true 5 (.t 2), none⟩, 
                ⟨some 8, .call 10 [.t 7, .c (.int .i64 100)], none⟩, 
                ⟨some 9, .move (.t 8), none⟩, 
                ⟨some 10, .load true 4 (.t 3), some (9, false)⟩, 
                ⟨some 11, .call 11 [.t 10, .c (.int .i64 30)], some (9, false)⟩, 
                ⟨some 12, .bin .gtr (.t 11) (.c (.int .i64 30)), some (9, false)⟩, 
                ⟨some 13, .pick (.t 9) (.c (.bool true)) (.t 12), none⟩] false)
            (.cond (.t 13)
              (.seq
                (.ops [⟨some 4, .move (.c (.bool true)), none⟩] false)
                (.ret))
              (.skip)))
          (.seq
            (.ops [⟨some 14, .load true 5 (.t 2), none⟩, 
                ⟨some 15, .load true 4 (.t 3), none⟩, 
                ⟨some 16, .call 13 [.t 14, .t 15], none⟩, 
                ⟨some 17, .load true 5 (.t 2), none⟩, 
                ⟨some 18, .load true 4 (.t 3), none⟩, 
                ⟨some 19, .call 14 [.t 17, .t 18], none⟩, 
                ⟨some 20, .call 12 [.t 16, .t 19], none⟩, 
                ⟨some 4, .move (.t 20), none⟩] true)
            (.ret)))) }

/- sequitur/sequiturlaw09.BindBack -/
def F4 : AF :=
  { ntmps := 49, results := [.tmp 4], pure := true, body :=
    .seq
      (.ops [⟨some 2, .box 25 (.t 0), none⟩, 
          ⟨some 4, .move (.c (.bool false)), none⟩] false)
      (.seq
        (.seq
          (.ops [⟨some 6, .call 9 [], none⟩, 
              ⟨some 7, .not (.t 6), none⟩] false)
          (.cond (.t 7)
            (.seq
              (.ops [⟨some 4, .move (.c (.bool false)), none⟩] false)
              (.ret))
            (.skip)))
        (.seq
          (.seq
            (.ops [⟨some 8, .load true 5 (.t 2), none⟩, 
                ⟨some 9, .call 10 [.t 8, .c (.int .i64 200)], none⟩, 
                ⟨some 10, .move (.t 9), none⟩, 
                ⟨some 11, .move (.t 1), some (10, false)⟩, 
                ⟨some 12, .lenS (.t 11), some (10, false)⟩, 
                ⟨some 13, .bin .gtr (.t 12) (.c (.int .i64 300)), some (10, false)⟩, 
                ⟨some 14, .pick (.t 10) (.c (.bool true)) (.t 13), none⟩, 
                ⟨some 15, .move (.t 14), none⟩, 
                ⟨some 16, .load true 5 (.t 2), some (15, false)⟩, 
                ⟨some 17, .call 15 [.t 16], some (15, false)⟩, 
                ⟨some 18, .bin .neq (.t 17) (.c (.int .i64 0)), some (15, false)⟩, 
                ⟨some 19, .pick (.t 15) (.c (.bool true)) (.t 18), none⟩, 
                ⟨some 20, .move (.t 19), none⟩, 
                ⟨some 21, .load true 5 (.t 2), some (20, false)⟩, 
                ⟨some 22, .call 16 [.t 21], some (20, false)⟩, 
                ⟨some 23, .not (.t 22), some (20, false)⟩, 
                ⟨some 24, .pick (.t 20) (.c (.bool true)) (.t 23), none⟩] false)
            (.cond (.t 24)
              (.seq
                (.ops [⟨some 4, .move (.c (.bool true)), none⟩] false)
                (.ret))
              (.skip)))
          (.seq
            (.ops [⟨some 25, .move (.t 1), none⟩, 
                ⟨some 26, .build [.int .i64 0, .str ⟨#[]⟩, .int .i64 0, .fsl 4 []] [(0, 1, .c (.int .i64 1)), (1, 1, .t 25)], none⟩, 
                ⟨some 5, .alloc 27 [.int .i64 0, .str ⟨#[]⟩, .int .i64 0, .fsl 4 []], none⟩, 
                ⟨none, .store 4 (.t 5) (.t 26), none⟩] false)
            (.seq
              (.seq
                (.ops [⟨some 27, .load true 5 (.t 2), none⟩, 
                    ⟨some 28, .move (.t 1), none⟩, 
                    ⟨some 29, .call 17 [.t 27, .t 28], none⟩, 
                    ⟨some 30, .load true 4 (.t 5), none⟩, 
                    ⟨some 31, .call 13 [.t 29, .t 30], none⟩, 
                    ⟨some 32, .load true 5 (.t 2), none⟩, 
                    ⟨some 33, .call 12 [.t 31, .t 32], none⟩, 
                    ⟨some 34, .not (.t 33), none⟩] true)
                (.cond (.t 34)
                  (.seq
                    (.ops [⟨some 4, .move (.c (.bool false)), none⟩] false)
                    (.ret))
                  (.skip)))
              (.seq
                (.ops [⟨some 35, .load true 5 (.t 2), none⟩, 
                    ⟨some 36, .buildSl 5 [.int .i64 0, .str ⟨#[]⟩, .str ⟨#[]⟩, .fsl 4 [], .fsl 5 []] 1 [(0, .t 35)], none⟩, 
                    ⟨some 37, .call 19 [.t 36], none⟩, 
                    ⟨some 38, .move (.t 1), none⟩, 
                    ⟨some 39, .call 18 [.t 37, .t 38], none⟩, 
                    ⟨some 40, .move (.t 39), none⟩, 
                    ⟨some 41, .load true 5 (.t 2), some (40, false)⟩, 
                    ⟨some 42, .load true 4 (.t 5), some (40, false)⟩, 
                    ⟨some 43, .call 13 [.t 41, .t 42], some (40, false)⟩, 
                    ⟨some 44, .move (.t 1), some (40, false)⟩, 
                    ⟨some 45, .call 17 [.t 43, .t 44], some (40, false)⟩, 
                    ⟨some 46, .load true 5 (.t 2), some (40, false)⟩, 
                    ⟨some 47, .call 12 [.t 45, .t 46], some (40, false)⟩, 
                    ⟨some 48, .pick (.t 40) (.c (.bool true)) (.t 47), none⟩, 
                    ⟨some 4, .move (.t 48), none⟩] true)
                (.ret)))))) }

/- sequitur/sequiturlaw09.BindLess -/
def L5_0 : AC :=
  .seq
    (.ops [⟨some 37, .bin .lss (.t 36) (.t 35), none⟩] false)
    (.seq
      (.cond (.t 37)
        (.skip)
        (.exit 0))
      (.seq
        (.block 1
          (.seq
            (.ops [⟨some 38, .idxA 1 (.t 34) (.t 36), none⟩, 
                ⟨some 39, .load false 1 (.t 38), none⟩, 
                ⟨some 7, .move (.t 39), none⟩] false)
            (.seq
              (.ops [⟨some 40, .move (.t 7), none⟩, 
                  ⟨some 41, .bin .gtr (.t 40) (.c (.int .i64 0)), none⟩] false)
              (.cond (.t 41)
                (.ops [⟨some 42, .move (.t 5), none⟩, 
                    ⟨some 43, .move (.t 7), none⟩, 
                    ⟨some 44, .bin .sub (.t 43) (.c (.int .i64 1)), none⟩, 
                    ⟨some 45, .buildSl 1 [.int .i64 0] 1 [(0, .t 44)], none⟩, 
                    ⟨some 46, .append 3 1 8 (.t 42) (.t 45), none⟩, 
                    ⟨some 5, .move (.t 46), none⟩] false)
                (.skip)))))
        (.ops [⟨some 47, .bin .add (.t 36) (.c (.int .i64 1)), none⟩, 
            ⟨some 36, .move (.t 47), none⟩] false)))
def F5 : AF :=
  { ntmps := 54, results := [.tmp 4], pure := true, body :=
    .seq
      (.ops [⟨some 2, .box 25 (.t 0), none⟩, 
          ⟨some 3, .box 27 (.t 1), none⟩, 
          ⟨some 4, .move (.c (.bool false)), none⟩] false)
      (.seq
        (.seq
          (.ops [⟨some 8, .call 9 [], none⟩, 
              ⟨some 9, .not (.t 8), none⟩] false)
          (.cond (.t 9)
            (.seq
              (.ops [⟨some 4, .move (.c (.bool false)), none⟩] false)
              (.ret))
            (.skip)))
        (.seq
          (.seq
            (.ops [⟨some 10, .load true 5 (.t 2), none⟩, 
                ⟨some 11, .call 10 [.t 10, .c (.int .i64 200)], none⟩, 
                ⟨some 12, .move (.t 11), none⟩, 
                ⟨some 13, .load true 4 (.t 3), some (12, false)⟩, 
                ⟨some 14, .call 11 [.t 13, .c (.int .i64 30)], some (12, false)⟩, 
                ⟨some 15, .bin .gtr (.t 14) (.c (.int .i64 30)), some (12, false)⟩, 
                ⟨some 16, .pick (.t 12) (.c (.bool true)) (.t 15), none⟩, 
                ⟨some 17, .move (.t 16), none⟩, 
                ⟨some 18, .load true 5 (.t 2), some (17, false)⟩, 
                ⟨some 19, .call 15 [.t 18], some (17, false)⟩, 
                ⟨some 20, .bin .neq (.t 19) (.c (.int .i64 0)), some (17, false)⟩, 
                ⟨some 21, .pick (.t 17) (.c (.bool true)) (.t 20), none⟩, 
                ⟨some 22, .move (.t 21), none⟩, 
                ⟨some 23, .load true 5 (.t 2), some (22, false)⟩, 
                ⟨some 24, .call 16 [.t 23], some (22, false)⟩, 
                ⟨some 25, .not (.t 24), some (22, false)⟩, 
                ⟨some 26, .pick (.t 22) (.c (.bool true)) (.t 25), none⟩, 
                ⟨some 27, .move (.t 26), none⟩, 
                ⟨some 28, .load true 4 (.t 3), some (27, false)⟩, 
                ⟨some 29, .call 20 [.t 28], some (27, false)⟩, 
                ⟨some 30, .len (.t 29), some (27, false)⟩, 
                ⟨some 31, .bin .gtr (.t 30) (.c (.int .i64 0)), some (27, false)⟩, 
                ⟨some 32, .pick (.t 27) (.c (.bool true)) (.t 31), none⟩] false)
            (.cond (.t 32)
              (.seq
                (.ops [⟨some 4, .move (.c (.bool true)), none⟩] false)
                (.ret))
              (.skip)))
          (.seq
            (.ops [⟨some 5, .move (.c (.fsl 1 [])), none⟩] false)
            (.seq
              (.seq
                (.ops [⟨some 33, .load true 5 (.t 2), none⟩, 
                    ⟨some 34, .call 21 [.t 33], none⟩, 
                    ⟨some 35, .len (.t 34), none⟩, 
                    ⟨some 36, .move (.c (.int .i64 0)), none⟩] false)
                (.block 0
                  (.loop L5_0)))
              (.seq
                (.ops [⟨some 48, .load true 5 (.t 2), none⟩, 
                    ⟨some 49, .load true 4 (.t 3), none⟩, 
                    ⟨some 50, .call 13 [.t 48, .t 49], none⟩, 
                    ⟨some 51, .call 23 [.t 50], none⟩, 
                    ⟨some 52, .move (.t 5), none⟩, 
                    ⟨some 53, .call 22 [.t 51, .t 52], none⟩, 
                    ⟨some 4, .move (.t 53), none⟩] false)
                (.ret)))))) }

/- sequitur/sequiturlaw09.BindLifts -/
def F6 : AF :=
  { ntmps := 40, results := [.tmp 6], pure := true, body :=
    .seq
      (.ops [⟨some 3, .box 25 (.t 0), none⟩, 
          ⟨some 4, .box 27 (.t 1), none⟩, 
          ⟨some 5, .box 46 (.t 2), none⟩, 
          ⟨some 6, .move (.c (.bool false)), none⟩] false)
      (.seq
        (.seq
          (.ops [⟨some 7, .call 9 [], none⟩, 
              ⟨some 8, .not (.t 7), none⟩] false)
          (.cond (.t 8)
            (.seq
              (.ops [⟨some 6, .move (.c (.bool false)), none⟩] false)
              (.ret))
            (.skip)))
        (.seq
          (.seq
            (.ops [⟨some 9, .load true 5 (.t 3), none⟩, 
                ⟨some 10, .call 10 [.t 9, .c (.int .i64 200)], none⟩, 
                ⟨some 11, .move (.t 10), none⟩, 
                ⟨some 12, .load true 4 (.t 4), some (11, false)⟩, 
                ⟨some 13, .call 11 [.t 12, .c (.int .i64 200)], some (11, false)⟩, 
                ⟨some 14, .bin .gtr (.t 13) (.c (.int .i64 200)), some (11, false)⟩, 
                ⟨some 15, .pick (.t 11) (.c (.bool true)) (.t 14), none⟩] false)
            (.cond (.t 15)
              (.seq
                (.ops [⟨some 6, .move (.c (.bool true)), none⟩] false)
                (.ret))
              (.skip)))
          (.seq
            (.ops [⟨some 16, .load true 5 (.t 3), none⟩, 
                ⟨some 17, .idxArrA 2 1 (.t 5) (.c (.int .i64 0)), none⟩, 
                ⟨some 18, .load false 1 (.t 17), none⟩, 
                ⟨some 19, .idxArrA 2 1 (.t 5) (.c (.int .i64 1)), none⟩, 
                ⟨some 20, .load false 1 (.t 19), none⟩, 
                ⟨some 21, .call 24 [.t 16, .t 18, .t 20], none⟩, 
                ⟨some 22, .load true 5 (.t 3), none⟩, 
                ⟨some 23, .idxArrA 2 1 (.t 5) (.c (.int .i64 0)), none⟩, 
                ⟨some 24, .load false 1 (.t 23), none⟩, 
                ⟨some 25, .idxArrA 2 1 (.t 5) (.c (.int .i64 1)), none⟩, 
                ⟨some 26, .load false 1 (.t 25), none⟩, 
                ⟨some 27, .call 25 [.t 22, .t 24, .t 26], none⟩, 
                ⟨some 28, .call 12 [.t 21, .t 27], none⟩, 
                ⟨some 29, .move (.t 28), none⟩, 
                ⟨some 30, .load true 4 (.t 4), some (29, true)⟩, 
                ⟨some 31, .idxArrA 2 1 (.t 5) (.c (.int .i64 0)), some (29, true)⟩, 
                ⟨some 32, .load false 1 (.t 31), some (29, true)⟩, 
                ⟨some 33, .call 27 [.t 30, .t 32], some (29, true)⟩, 
                ⟨some 34, .load true 4 (.t 4), some (29, true)⟩, 
                ⟨some 35, .idxArrA 2 1 (.t 5) (.c (.int .i64 0)), some (29, true)⟩, 
                ⟨some 36, .load false 1 (.t 35), some (29, true)⟩, 
                ⟨some 37, .call 28 [.t 34, .t 36], some (29, true)⟩, 
                ⟨some 38, .call 26 [.t 33, .t 37], some (29, true)⟩, 
                ⟨some 39, .pick (.t 29) (.t 38) (.c (.bool false)), none⟩, 
                ⟨some 6, .move (.t 39), none⟩] true)
            (.ret)))) }

/- sequitur/sequiturlaw09.BindCloses -/
def F7 : AF :=
  { ntmps := 57, results := [.tmp 6], pure := true, body :=
    .seq
      (.ops [⟨some 3, .box 25 (.t 0), none⟩, 
          ⟨some 6, .move (.c (.bool false)), none⟩] false)
      (.seq
        (.seq
          (.ops [⟨some 12, .call 9 [], none⟩, 
              ⟨some 13, .not (.t 12), none⟩] false)
          (.cond (.t 13)
            (.seq
              (.ops [⟨some 6, .move (.c (.bool false)), none⟩] false)
              (.ret))
            (.skip)))
        (.seq
          (.seq
            (.ops [⟨some 14, .load true 5 (.t 3), none⟩, 
                ⟨some 15, .call 10 [.t 14, .c (.int .i64 200)], none⟩, 
                ⟨some 16, .move (.t 15), none⟩, 
                ⟨some 17, .move (.t 1), some (16, false)⟩, 
                ⟨some 18, .lenS (.t 17), some (16, false)⟩, 
                ⟨some 19, .bin .gtr (.t 18) (.c (.int .i64 300)), some (16, false)⟩, 
                ⟨some 20, .pick (.t 16) (.c (.bool true)) (.t 19), none⟩] false)
            (.cond (.t 20)
              (.seq
                (.ops [⟨some 6, .move (.c (.bool true)), none⟩] false)
                (.ret))
              (.skip)))
          (.seq
            (.ops [⟨some 21, .load true 5 (.t 3), none⟩, 
                ⟨some 22, .move (.t 1), none⟩, 
                ⟨some 23, .call 29 [.t 21, .t 22], none⟩, 
                ⟨some 7, .alloc 25 [.int .i64 0, .str ⟨#[]⟩, .str ⟨#[]⟩, .fsl 4 [], .fsl 5 []], none⟩, 
                ⟨none, .store 5 (.t 7) (.t 23), none⟩] false)
            (.seq
              (.opsW [⟨some 24, .move (.t 1), none⟩, 
                  ⟨some 25, .move (.t 2), none⟩, 
                  ⟨some 26, .load true 5 (.t 3), none⟩, 
                  ⟨some 27, .call 30 [.t 24, .t 25, .t 26], none⟩, 
                  ⟨some 28, .move (.t 1), none⟩, 
                  ⟨some 29, .move (.t 2), none⟩, 
                  ⟨some 30, .load true 5 (.t 3), none⟩, 
                  ⟨some 31, .call 31 [.t 28, .t 29, .t 30], none⟩, 
                  ⟨some 8, .alloc 25 [.int .i64 0, .str ⟨#[]⟩, .str ⟨#[]⟩, .fsl 4 [], .fsl 5 []], none⟩, 
                  ⟨some 9, .alloc 25 [.int .i64 0, .str ⟨#[]⟩, .str ⟨#[]⟩, .fsl 4 [], .fsl 5 []], none⟩, 
                  ⟨none, .store 5 (.t 8) (.t 27), none⟩, 
                  ⟨none, .store 5 (.t 9) (.t 31), none⟩])
              (.seq
                (.ops [⟨some 32, .move (.t 1), none⟩, 
                    ⟨some 33, .move (.t 2), none⟩, 
                    ⟨some 34, .load true 5 (.t 7), none⟩, 
                    ⟨some 35, .buildSl 5 [.int .i64 0, .str ⟨#[]⟩, .str ⟨#[]⟩, .fsl 4 [], .fsl 5 []] 1 [(0, .t 34)], none⟩, 
                    ⟨some 36, .build [.int .i64 0, .str ⟨#[]⟩, .str ⟨#[]⟩, .fsl 4 [], .fsl 5 []] [(0, 1, .c (.int .i64 11)), (1, 1, .t 32), (2, 1, .t 33), (4, 1, .t 35)], none⟩, 
                    ⟨some 10, .alloc 25 [.int .i64 0, .str ⟨#[]⟩, .str ⟨#[]⟩, .fsl 4 [], .fsl 5 []], none⟩, 
                    ⟨none, .store 5 (.t 10) (.t 36), none⟩] false)
                (.seq
                  (.ops [⟨some 37, .move (.t 1), none⟩, 
                      ⟨some 38, .move (.t 2), none⟩, 
                      ⟨some 39, .load true 5 (.t 7), none⟩, 
                      ⟨some 40, .buildSl 5 [.int .i64 0, .str ⟨#[]⟩, .str ⟨#[]⟩, .fsl 4 [], .fsl 5 []] 1 [(0, .t 39)], none⟩, 
                      ⟨some 41, .build [.int .i64 0, .str ⟨#[]⟩, .str ⟨#[]⟩, .fsl 4 [], .fsl 5 []] [(0, 1, .c (.int .i64 12)), (1, 1, .t 37), (2, 1, .t 38), (4, 1, .t 40)], none⟩, 
                      ⟨some 11, .alloc 25 [.int .i64 0, .str ⟨#[]⟩, .str ⟨#[]⟩, .fsl 4 [], .fsl 5 []], none⟩, 
                      ⟨none, .store 5 (.t 11) (.t 41), none⟩] false)
                  (.seq
                    (.opsW [⟨some 42, .load true 5 (.t 3), none⟩, 
                        ⟨some 43, .move (.t 1), none⟩, 
                        ⟨some 44, .call 17 [.t 42, .t 43], none⟩, 
                        ⟨some 45, .load true 5 (.t 7), none⟩, 
                        ⟨some 46, .call 12 [.t 44, .t 45], none⟩, 
                        ⟨some 47, .move (.t 46), none⟩, 
                        ⟨some 48, .load true 5 (.t 8), some (47, true)⟩, 
                        ⟨some 49, .load true 5 (.t 10), some (47, true)⟩, 
                        ⟨some 50, .call 12 [.t 48, .t 49], some (47, true)⟩, 
                        ⟨some 51, .pick (.t 47) (.t 50) (.c (.bool false)), none⟩, 
                        ⟨some 52, .move (.t 51), none⟩, 
                        ⟨some 53, .load true 5 (.t 9), some (52, true)⟩, 
                        ⟨some 54, .load true 5 (.t 11), some (52, true)⟩, 
                        ⟨some 55, .call 12 [.t 53, .t 54], some (52, true)⟩, 
                        ⟨some 56, .pick (.t 52) (.t 55) (.c (.bool false)), none⟩, 
                        ⟨some 6, .move (.t 56), none⟩])
                    (.ret)))))))) }

/- sequitur/sequiturlaw09.BindLoose -/
def F8 : AF :=
  { ntmps := 36, results := [.tmp 4], pure := true, body :=
    .seq
      (.ops [⟨some 2, .box 25 (.t 0), none⟩, 
          ⟨some 3, .box 27 (.t 1), none⟩, 
          ⟨some 4, .move (.c (.bool false)), none⟩] false)
      (.seq
        (.seq
          (.ops [⟨some 6, .call 9 [], none⟩, 
              ⟨some 7, .not (.t 6), none⟩] false)
          (.cond (.t 7)
            (.seq
              (.ops [⟨some 4, .move (.c (.bool false)), none⟩] false)
              (.ret))
            (.skip)))
        (.seq
          (.seq
            (.ops [⟨some 8, .load true 5 (.t 2), none⟩, 
                ⟨some 9, .call 10 [.t 8, .c (.int .i64 200)], none⟩, 
                ⟨some 10, .move (.t 9), none⟩, 
                ⟨some 11, .load true 4 (.t 3), some (10, false)⟩, 
                ⟨some 12, .call 11 [.t 11, .c (.int .i64 200)], some (10, false)⟩, 
                ⟨some 13, .bin .gtr (.t 12) (.c (.int .i64 200)), some (10, false)⟩, 
                ⟨some 14, .pick (.t 10) (.c (.bool true)) (.t 13), none⟩] false)
            (.cond (.t 14)
              (.seq
                (.ops [⟨some 4, .move (.c (.bool true)), none⟩] false)
                (.ret))
              (.skip)))
          (.seq
            (.ops [⟨some 15, .load true 5 (.t 2), none⟩, 
                ⟨some 16, .call 21 [.t 15], none⟩, 
                ⟨some 5, .move (.t 16), none⟩] false)
            (.seq
              (.ops [⟨some 17, .load true 5 (.t 2), none⟩, 
                  ⟨some 18, .call 23 [.t 17], none⟩, 
                  ⟨some 19, .move (.t 5), none⟩, 
                  ⟨some 20, .call 22 [.t 18, .t 19], none⟩, 
                  ⟨some 21, .move (.t 20), none⟩, 
                  ⟨some 22, .load true 4 (.t 3), some (21, true)⟩, 
                  ⟨some 23, .call 32 [.t 22], some (21, true)⟩, 
                  ⟨some 24, .load true 4 (.t 3), some (21, true)⟩, 
                  ⟨some 25, .call 20 [.t 24], some (21, true)⟩, 
                  ⟨some 26, .call 22 [.t 23, .t 25], some (21, true)⟩, 
                  ⟨some 27, .pick (.t 21) (.t 26) (.c (.bool false)), none⟩, 
                  ⟨some 28, .move (.t 27), none⟩, 
                  ⟨some 29, .load true 5 (.t 2), some (28, true)⟩, 
                  ⟨some 30, .call 33 [.t 29], some (28, true)⟩, 
                  ⟨some 31, .move (.t 5), some (28, true)⟩, 
                  ⟨some 32, .len (.t 31), some (28, true)⟩, 
                  ⟨some 33, .bin .eql (.t 32) (.c (.int .i64 0)), some (28, true)⟩, 
                  ⟨some 34, .beq false (.t 30) (.t 33), some (28, true)⟩, 
                  ⟨some 35, .pick (.t 28) (.t 34) (.c (.bool false)), none⟩, 
                  ⟨some 4, .move (.t 35), none⟩] true)
              (.ret))))) }

/- sequitur/sequiturlaw09.alive -/
def F9 : AF :=
  { ntmps := 57, results := [.tmp 0], pure := true, body :=
    .seq
      (.ops [⟨some 0, .move (.c (.bool false)), none⟩] false)
      (.seq
        (.ops [⟨some 8, .build [.int .i64 0, .str ⟨#[]⟩, .int .i64 0, .fsl 4 []] [(0, 1, .c (.int .i64 1)), (1, 1, .c (.str ⟨#[120]⟩))], none⟩, 
            ⟨some 9, .build [.int .i64 0, .str ⟨#[]⟩, .int .i64 0, .fsl 4 []] [(0, 1, .c (.int .i64 1)), (1, 1, .c (.str ⟨#[121]⟩))], none⟩, 
            ⟨some 10, .build [.int .i64 0, .str ⟨#[]⟩, .int .i64 0, .fsl 4 []] [(0, 1, .c (.int .i64 3)), (1, 1, .c (.str ⟨#[99]⟩))], none⟩, 
            ⟨some 1, .alloc 27 [.int .i64 0, .str ⟨#[]⟩, .int .i64 0, .fsl 4 []], none⟩, 
            ⟨some 2, .alloc 27 [.int .i64 0, .str ⟨#[]⟩, .int .i64 0, .fsl 4 []], none⟩, 
            ⟨some 3, .alloc 27 [.int .i64 0, .str ⟨#[]⟩, .int .i64 0, .fsl 4 []], none⟩, 
            ⟨none, .store 4 (.t 1) (.t 8), none⟩, 
            ⟨none, .store 4 (.t 2) (.t 9), none⟩, 
            ⟨none, .store 4 (.t 3) (.t 10), none⟩] false)
        (.seq
          (.ops [⟨some 11, .load true 4 (.t 1), none⟩, 
              ⟨some 12, .load true 4 (.t 2), none⟩, 
              ⟨some 13, .buildSl 4 [.int .i64 0, .str ⟨#[]⟩, .int .i64 0, .fsl 4 []] 2 [(0, .t 11), (1, .t 12)], none⟩, 
              ⟨some 14, .build [.int .i64 0, .str ⟨#[]⟩, .str ⟨#[]⟩, .fsl 4 [], .fsl 5 []] [(0, 1, .c (.int .i64 3)), (1, 1, .c (.str ⟨#[112]⟩)), (3, 1, .t 13)], none⟩, 
              ⟨some 4, .alloc 25 [.int .i64 0, .str ⟨#[]⟩, .str ⟨#[]⟩, .fsl 4 [], .fsl 5 []], none⟩, 
              ⟨none, .store 5 (.t 4) (.t 14), none⟩] false)
          (.seq
            (.ops [⟨some 15, .load true 5 (.t 4), none⟩, 
                ⟨some 16, .call 17 [.t 15, .c (.str ⟨#[120]⟩)], none⟩, 
                ⟨some 5, .alloc 25 [.int .i64 0, .str ⟨#[]⟩, .str ⟨#[]⟩, .fsl 4 [], .fsl 5 []], none⟩, 
                ⟨none, .store 5 (.t 5) (.t 16), none⟩] false)
            (.seq
              (.ops [⟨some 17, .build [.int .i64 0, .str ⟨#[]⟩, .int .i64 0, .fsl 4 []] [(0, 1, .c (.int .i64 2))], none⟩, 
                  ⟨some 18, .load true 4 (.t 2), none⟩, 
                  ⟨some 19, .buildSl 4 [.int .i64 0, .str ⟨#[]⟩, .int .i64 0, .fsl 4 []] 2 [(0, .t 17), (1, .t 18)], none⟩, 
                  ⟨some 20, .build [.int .i64 0, .str ⟨#[]⟩, .str ⟨#[]⟩, .fsl 4 [], .fsl 5 []] [(0, 1, .c (.int .i64 3)), (1, 1, .c (.str ⟨#[112]⟩)), (3, 1, .t 19)], none⟩, 
                  ⟨some 6, .alloc 25 [.int .i64 0, .str ⟨#[]⟩, .str ⟨#[]⟩, .fsl 4 [], .fsl 5 []], none⟩, 
                  ⟨none, .store 5 (.t 6) (.t 20), none⟩] false)
              (.seq
                (.ops [⟨some 21, .load true 5 (.t 5), none⟩, 
                    ⟨some 22, .load true 4 (.t 3), none⟩, 
                    ⟨some 23, .call 13 [.t 21, .t 22], none⟩, 
                    ⟨some 7, .alloc 25 [.int .i64 0, .str ⟨#[]⟩, .str ⟨#[]⟩, .fsl 4 [], .fsl 5 []], none⟩, 
                    ⟨none, .store 5 (.t 7) (.t 23), none⟩] false)
                (.seq
                  (.ops [⟨some 24, .load true 5 (.t 5), none⟩, 
                      ⟨some 25, .load true 5 (.t 6), none⟩, 
                      ⟨some 26, .call 34 [.t 24, .t 25], none⟩, 
                      ⟨some 27, .move (.t 26), none⟩, 
                      ⟨some 28, .load true 5 (.t 5), some (27, true)⟩, 
                      ⟨some 29, .call 23 [.t 28], some (27, true)⟩, 
                      ⟨some 30, .buildSl 1 [.int .i64 0] 1 [(0, .c (.int .i64 0))], some (27, true)⟩, 
                      ⟨some 31, .call 22 [.t 29, .t 30], some (27, true)⟩, 
                      ⟨some 32, .pick (.t 27) (.t 31) (.c (.bool false)), none⟩, 
                      ⟨some 33, .move (.t 32), none⟩, 
                      ⟨some 34, .load true 5 (.t 5), some (33, true)⟩, 
                      ⟨some 35, .call 33 [.t 34], some (33, true)⟩, 
                      ⟨some 36, .not (.t 35), some (33, true)⟩, 
                      ⟨some 37, .pick (.t 33) (.t 36) (.c (.bool false)), none⟩, 
                      ⟨some 38, .move (.t 37), none⟩, 
                      ⟨some 39, .fieldA 3 (.t 7), some (38, true)⟩, 
                      ⟨some 40, .load false 1 (.t 39), some (38, true)⟩, 
                      ⟨some 41, .len (.t 40), some (38, true)⟩, 
                      ⟨some 42, .bin .eql (.t 41) (.c (.int .i64 2)), some (38, true)⟩, 
                      ⟨some 43, .pick (.t 38) (.t 42) (.c (.bool false)), none⟩, 
                      ⟨some 44, .move (.t 43), none⟩, 
                      ⟨some 45, .fieldA 3 (.t 7), some (44, true)⟩, 
                      ⟨some 46, .load false 1 (.t 45), some (44, true)⟩, 
                      ⟨some 47, .idxA 4 (.t 46) (.c (.int .i64 0)), some (44, true)⟩, 
                      ⟨some 48, .load true 4 (.t 47), some (44, true)⟩, 
                      ⟨some 49, .load true 4 (.t 3), some (44, true)⟩, 
                      ⟨some 50, .call 26 [.t 48, .t 49], some (44, true)⟩, 
                      ⟨some 51, .pick (.t 44) (.t 50) (.c (.bool false)), none⟩, 
                      ⟨some 52, .move (.t 51), none⟩, 
                      ⟨some 53, .load true 5 (.t 4), some (52, true)⟩, 
                      ⟨some 54, .call 30 [.c (.str ⟨#[120]⟩), .c (.str ⟨#[65]⟩), .t 53], some (52, true)⟩, 
                      ⟨some 55, .call 33 [.t 54], some (52, true)⟩, 
                      ⟨some 56, .pick (.t 52) (.t 55) (.c (.bool false)), none⟩, 
                      ⟨some 0, .move (.t 56), none⟩] true)
                  (.ret))))))) }

/- sequitur/sequiturbase.Big -/
def F10 : AF :=
  { ntmps := 10, results := [.tmp 4], pure := true, body :=
    .seq
      (.ops [⟨some 2, .box 25 (.t 0), none⟩, 
          ⟨some 4, .move (.c (.bool false)), none⟩] false)
      (.seq
        (.ops [⟨some 5, .load true 5 (.t 2), none⟩, 
            ⟨some 6, .move (.t 1), none⟩, 
            ⟨some 7, .call 35 [.t 5, .t 6], none⟩, 
            ⟨some 8, .move (.t 1), none⟩, 
            ⟨some 9, .bin .gtr (.t 7) (.t 8), none⟩, 
            ⟨some 4, .move (.t 9), none⟩] false)
        (.ret)) }

/- sequitur/sequiturbase.Size -/
def L11_0 : AC :=
  .seq
    (.seq
      (.ops [⟨some 7, .move (.t 6), none⟩, 
          ⟨some 8, .fieldA 3 (.t 2), none⟩, 
          ⟨some 9, .load false 1 (.t 8), none⟩, 
          ⟨some 10, .len (.t 9), none⟩, 
          ⟨some 11, .bin .lss (.t 7) (.t 10), none⟩, 
          ⟨some 12, .move (.t 11), none⟩, 
          ⟨some 13, .move (.t 5), some (12, true)⟩, 
          ⟨some 14, .move (.t 1), some (12, true)⟩, 
          ⟨some 15, .bin .leq (.t 13) (.t 14), some (12, true)⟩, 
          ⟨some 16, .pick (.t 12) (.t 15) (.c (.bool false)), none⟩] false)
      (.cond (.t 16)
        (.skip)
        (.exit 0)))
    (.seq
      (.block 1
        (.ops [⟨some 19, .move (.t 5), none⟩, 
            ⟨some 20, .fieldA 3 (.t 2), none⟩, 
            ⟨some 21, .load false 1 (.t 20), none⟩, 
            ⟨some 22, .move (.t 6), none⟩, 
            ⟨some 23, .idxA 4 (.t 21) (.t 22), none⟩, 
            ⟨some 24, .load true 4 (.t 23), none⟩, 
            ⟨some 25, .move (.t 1), none⟩, 
            ⟨some 26, .move (.t 5), none⟩, 
            ⟨some 27, .bin .sub (.t 25) (.t 26), none⟩, 
            ⟨some 28, .call 11 [.t 24, .t 27], none⟩, 
            ⟨some 29, .bin .add (.t 19) (.t 28), none⟩, 
            ⟨some 5, .move (.t 29), none⟩] false))
      (.ops [⟨some 17, .move (.t 6), none⟩, 
          ⟨some 18, .bin .add (.t 17) (.c (.int .i64 1)), none⟩, 
          ⟨some 6, .move (.t 18), none⟩] false))
def F11 : AF :=
  { ntmps := 31, results := [.tmp 4], pure := true, body :=
    .seq
      (.ops [⟨some 2, .box 27 (.t 0), none⟩, 
          ⟨some 4, .move (.c (.int .i64 0)), none⟩] false)
      (.seq
        (.ops [⟨some 5, .move (.c (.int .i64 1)), none⟩] false)
        (.seq
          (.seq
            (.ops [⟨some 6, .move (.c (.int .i64 0)), none⟩] false)
            (.block 0
              (.loop L11_0)))
          (.seq
            (.ops [⟨some 30, .move (.t 5), none⟩, 
                ⟨some 4, .move (.t 30), none⟩] false)
            (.ret)))) }

/- sequitur/sequiturbase.Exact -/
def F12 : AF :=
  { ntmps := 38, results := [.tmp 4], pure := true, body :=
    .seq
      (.ops [⟨some 2, .box 25 (.t 0), none⟩, 
          ⟨some 3, .box 25 (.t 1), none⟩, 
          ⟨some 4, .move (.c (.bool false)), none⟩] false)
      (.seq
        (.ops [⟨some 5, .fieldA 0 (.t 2), none⟩, 
            ⟨some 6, .load false 1 (.t 5), none⟩, 
            ⟨some 7, .fieldA 0 (.t 3), none⟩, 
            ⟨some 8, .load false 1 (.t 7), none⟩, 
            ⟨some 9, .bin .eql (.t 6) (.t 8), none⟩, 
            ⟨some 10, .move (.t 9), none⟩, 
            ⟨some 11, .fieldA 2 (.t 2), some (10, true)⟩, 
            ⟨some 12, .load false 1 (.t 11), some (10, true)⟩, 
            ⟨some 13, .fieldA 2 (.t 3), some (10, true)⟩, 
            ⟨some 14, .load false 1 (.t 13), some (10, true)⟩, 
            ⟨some 15, .bin .eql (.t 12) (.t 14), some (10, true)⟩, 
            ⟨some 16, .pick (.t 10) (.t 15) (.c (.bool false)), none⟩, 
            ⟨some 17, .move (.t 16), none⟩, 
            ⟨some 18, .fieldA 1 (.t 2), some (17, true)⟩, 
            ⟨some 19, .load false 1 (.t 18), some (17, true)⟩, 
            ⟨some 20, .fieldA 1 (.t 3), some (17, true)⟩, 
            ⟨some 21, .load false 1 (.t 20), some (17, true)⟩, 
            ⟨some 22, .bin .eql (.t 19) (.t 21), some (17, true)⟩, 
            ⟨some 23, .pick (.t 17) (.t 22) (.c (.bool false)), none⟩, 
            ⟨some 24, .move (.t 23), none⟩, 
            ⟨some 25, .fieldA 3 (.t 2), some (24, true)⟩, 
            ⟨some 26, .load false 1 (.t 25), some (24, true)⟩, 
            ⟨some 27, .fieldA 3 (.t 3), some (24, true)⟩, 
            ⟨some 28, .load false 1 (.t 27), some (24, true)⟩, 
            ⟨some 29, .call 36 [.t 26, .t 28], some (24, true)⟩, 
            ⟨some 30, .pick (.t 24) (.t 29) (.c (.bool false)), none⟩, 
            ⟨some 31, .move (.t 30), none⟩, 
            ⟨some 32, .fieldA 4 (.t 2), some (31, true)⟩, 
            ⟨some 33, .load false 1 (.t 32), some (31, true)⟩, 
            ⟨some 34, .fieldA 4 (.t 3), some (31, true)⟩, 
            ⟨some 35, .load false 1 (.t 34), some (31, true)⟩, 
            ⟨some 36, .call 37 [.t 33, .t 35], some (31, true)⟩, 
            ⟨some 37, .pick (.t 31) (.t 36) (.c (.bool false)), none⟩, 
            ⟨some 4, .move (.t 37), none⟩] false)
        (.ret)) }

/- sequitur/bind.Open -/
def F13 : AF :=
  { ntmps := 8, results := [.cell 4 true 5], pure := true, body :=
    .seq
      (.ops [⟨some 2, .box 25 (.t 0), none⟩, 
          ⟨some 3, .box 27 (.t 1), none⟩, 
          ⟨some 4, .alloc 25 [.int .i64 0, .str ⟨#[]⟩, .str ⟨#[]⟩, .fsl 4 [], .fsl 5 []], none⟩] false)
      (.seq
        (.ops [⟨some 5, .load true 5 (.t 2), none⟩, 
            ⟨some 6, .mkfn (.func 39) [] [.t 3], none⟩, 
            ⟨some 7, .call 38 [.t 5, .c (.int .i64 0), .t 6], none⟩, 
            ⟨none, .store 5 (.t 4) (.t 7), none⟩] false)
        (.ret)) }

/- sequitur/sequiturref09.Open -/
def F14 : AF :=
  { ntmps := 9, results := [.cell 4 true 5], pure := true, body :=
    .seq
      (.ops [⟨some 2, .box 25 (.t 0), none⟩, 
          ⟨some 3, .box 27 (.t 1), none⟩, 
          ⟨some 4, .alloc 25 [.int .i64 0, .str ⟨#[]⟩, .str ⟨#[]⟩, .fsl 4 [], .fsl 5 []], none⟩] false)
      (.seq
        (.ops [⟨some 5, .load true 4 (.t 3), none⟩, 
            ⟨some 6, .build [.int .i64 0, .int .i64 0, .int .i64 0, .int .i64 0, .str ⟨#[]⟩, .int .i64 0, .fsl 4 [], .str ⟨#[]⟩] [(0, 1, .c (.int .i64 2)), (3, 4, .t 5)], none⟩, 
            ⟨some 7, .load true 5 (.t 2), none⟩, 
            ⟨some 8, .call 41 [.t 6, .t 7, .c (.int .i64 0)], none⟩, 
            ⟨none, .store 5 (.t 4) (.t 8), none⟩] false)
        (.ret)) }

/- sequitur/sequiturref08.Right -/
def F15 : AF :=
  { ntmps := 11, results := [.tmp 2], pure := true, body :=
    .seq
      (.ops [⟨some 1, .box 25 (.t 0), none⟩, 
          ⟨some 2, .move (.c (.int .i64 0)), none⟩] false)
      (.seq
        (.seq
          (.ops [⟨some 3, .load true 5 (.t 1), none⟩, 
              ⟨some 4, .call 42 [.t 3], none⟩, 
              ⟨some 5, .bin .gtr (.t 4) (.c (.int .i64 64)), none⟩] false)
          (.cond (.t 5)
            (.seq
              (.ops [⟨some 2, .move (.c (.int .i64 6)), none⟩] false)
              (.ret))
            (.skip)))
        (.seq
          (.seq
            (.ops [⟨some 6, .load true 5 (.t 1), none⟩, 
                ⟨some 7, .call 43 [.t 6], none⟩, 
                ⟨some 8, .bin .gtr (.t 7) (.c (.int .i64 4096)), none⟩] false)
            (.cond (.t 8)
              (.seq
                (.ops [⟨some 2, .move (.c (.int .i64 2)), none⟩] false)
                (.ret))
              (.skip)))
          (.seq
            (.ops [⟨some 9, .load true 5 (.t 1), none⟩, 
                ⟨some 10, .call 44 [.t 9], none⟩, 
                ⟨some 2, .move (.t 10), none⟩] false)
            (.ret)))) }

/- sequitur/sequiturref09.Small -/
def L16_0 : AC :=
  .seq
    (.seq
      (.ops [⟨some 5, .move (.t 3), none⟩, 
          ⟨some 6, .fieldA 3 (.t 1), none⟩, 
          ⟨some 7, .load false 1 (.t 6), none⟩, 
          ⟨some 8, .len (.t 7), none⟩, 
          ⟨some 9, .bin .lss (.t 5) (.t 8), none⟩] false)
      (.cond (.t 9)
        (.skip)
        (.exit 0)))
    (.seq
      (.block 1
        (.seq
          (.ops [⟨some 12, .fieldA 3 (.t 1), none⟩, 
              ⟨some 13, .load false 1 (.t 12), none⟩, 
              ⟨some 14, .move (.t 3), none⟩, 
              ⟨some 15, .idxA 4 (.t 13) (.t 14), none⟩, 
              ⟨some 16, .load true 4 (.t 15), none⟩, 
              ⟨some 17, .call 45 [.t 16], none⟩, 
              ⟨some 18, .not (.t 17), none⟩] false)
          (.cond (.t 18)
            (.seq
              (.ops [⟨some 2, .move (.c (.bool false)), none⟩] false)
              (.ret))
            (.skip))))
      (.ops [⟨some 10, .move (.t 3), none⟩, 
          ⟨some 11, .bin .add (.t 10) (.c (.int .i64 1)), none⟩, 
          ⟨some 3, .move (.t 11), none⟩] false))

def L16_1 : AC :=
  .seq
    (.seq
      (.ops [⟨some 19, .move (.t 4), none⟩, 
          ⟨some 20, .fieldA 4 (.t 1), none⟩, 
          ⟨some 21, .load false 1 (.t 20), none⟩, 
          ⟨some 22, .len (.t 21), none⟩, 
          ⟨some 23, .bin .lss (.t 19) (.t 22), none⟩] false)
      (.cond (.t 23)
        (.skip)
        (.exit 2)))
    (.seq
      (.block 3
        (.seq
          (.ops [⟨some 26, .fieldA 4 (.t 1), none⟩, 
              ⟨some 27, .load false 1 (.t 26), none⟩, 
              ⟨some 28, .move (.t 4), none⟩, 
              ⟨some 29, .idxA 5 (.t 27) (.t 28), none⟩, 
              ⟨some 30, .load true 5 (.t 29), none⟩, 
              ⟨some 31, .call 16 [.t 30], none⟩, 
              ⟨some 32, .not (.t 31), none⟩] false)
          (.cond (.t 32)
            (.seq
              (.ops [⟨some 2, .move (.c (.bool false)), none⟩] false)
              (.ret))
            (.skip))))
      (.ops [⟨some 24, .move (.t 4), none⟩, 
          ⟨some 25, .bin .add (.t 24) (.c (.int .i64 1)), none⟩, 
          ⟨some 4, .move (.t 25), none⟩] false))
def F16 : AF :=
  { ntmps := 33, results := [.tmp 2], pure := true, body :=
    .seq
      (.ops [⟨some 1, .box 25 (.t 0), none⟩, 
          ⟨some 2, .move (.c (.bool false)), none⟩] false)
      (.seq
        (.seq
          (.ops [⟨some 3, .move (.c (.int .i64 0)), none⟩] false)
          (.block 0
            (.loop L16_0)))
        (.seq
          (.seq
            (.ops [⟨some 4, .move (.c (.int .i64 0)), none⟩] false)
            (.block 2
              (.loop L16_1)))
          (.seq
            (.ops [⟨some 2, .move (.c (.bool true)), none⟩] false)
            (.ret)))) }

/- sequitur/bind.Close -/
def F17 : AF :=
  { ntmps := 8, results := [.cell 4 true 5], pure := true, body :=
    .seq
      (.ops [⟨some 2, .box 25 (.t 0), none⟩, 
          ⟨some 3, .box 9 (.t 1), none⟩, 
          ⟨some 4, .alloc 25 [.int .i64 0, .str ⟨#[]⟩, .str ⟨#[]⟩, .fsl 4 [], .fsl 5 []], none⟩] false)
      (.seq
        (.ops [⟨some 5, .load true 5 (.t 2), none⟩, 
            ⟨some 6, .mkfn (.func 46) [] [.t 3], none⟩, 
            ⟨some 7, .call 38 [.t 5, .c (.int .i64 0), .t 6], none⟩, 
            ⟨none, .store 5 (.t 4) (.t 7), none⟩] false)
        (.ret)) }

/- sequitur/sequiturbase.Has -/
def L18_0 : AC :=
  .seq
    (.seq
      (.ops [⟨some 6, .move (.t 5), none⟩, 
          ⟨some 7, .move (.t 0), none⟩, 
          ⟨some 8, .len (.t 7), none⟩, 
          ⟨some 9, .bin .lss (.t 6) (.t 8), none⟩] false)
      (.cond (.t 9)
        (.skip)
        (.exit 0)))
    (.seq
      (.block 1
        (.seq
          (.ops [⟨some 12, .move (.t 0), none⟩, 
              ⟨some 13, .move (.t 5), none⟩, 
              ⟨some 14, .idxA 1 (.t 12) (.t 13), none⟩, 
              ⟨some 15, .load false 1 (.t 14), none⟩, 
              ⟨some 16, .move (.t 1), none⟩, 
              ⟨some 17, .bin .eql (.t 15) (.t 16), none⟩] false)
          (.cond (.t 17)
            (.seq
              (.ops [⟨some 4, .move (.c (.bool true)), none⟩] false)
              (.ret))
            (.skip))))
      (.ops [⟨some 10, .move (.t 5), none⟩, 
          ⟨some 11, .bin .add (.t 10) (.c (.int .i64 1)), none⟩, 
          ⟨some 5, .move (.t 11), none⟩] false))
def F18 : AF :=
  { ntmps := 18, results := [.tmp 4], pure := true, body :=
    .seq
      (.ops [⟨some 4, .move (.c (.bool false)), none⟩] false)
      (.seq
        (.seq
          (.ops [⟨some 5, .move (.c (.int .i64 0)), none⟩] false)
          (.block 0
            (.loop L18_0)))
        (.seq
          (.ops [⟨some 4, .move (.c (.bool false)), none⟩] false)
          (.ret))) }

/- sequitur/sequiturref08.Names -/
def L19_0 : AC :=
  .seq
    (.seq
      (.ops [⟨some 5, .move (.t 4), none⟩, 
          ⟨some 6, .move (.t 0), none⟩, 
          ⟨some 7, .len (.t 6), none⟩, 
          ⟨some 8, .bin .lss (.t 5) (.t 7), none⟩] false)
      (.cond (.t 8)
        (.skip)
        (.exit 0)))
    (.seq
      (.block 1
        (.ops [⟨some 11, .move (.t 3), none⟩, 
            ⟨some 12, .move (.t 0), none⟩, 
            ⟨some 13, .move (.t 4), none⟩, 
            ⟨some 14, .idxA 5 (.t 12) (.t 13), none⟩, 
            ⟨some 15, .load true 5 (.t 14), none⟩, 
            ⟨some 16, .call 47 [.t 11, .t 15], none⟩, 
            ⟨some 3, .move (.t 16), none⟩] false))
      (.ops [⟨some 9, .move (.t 4), none⟩, 
          ⟨some 10, .bin .add (.t 9) (.c (.int .i64 1)), none⟩, 
          ⟨some 4, .move (.t 10), none⟩] false))
def F19 : AF :=
  { ntmps := 18, results := [.tmp 2], pure := true, body :=
    .seq
      (.ops [⟨some 2, .move (.c (.fsl 1 [])), none⟩] false)
      (.seq
        (.ops [⟨some 3, .move (.c (.fsl 1 [])), none⟩] false)
        (.seq
          (.seq
            (.ops [⟨some 4, .move (.c (.int .i64 0)), none⟩] false)
            (.block 0
              (.loop L19_0)))
          (.seq
            (.ops [⟨some 17, .move (.t 3), none⟩, 
                ⟨some 2, .move (.t 17), none⟩] false)
            (.ret)))) }

/- sequitur/sequiturref09.LooseTerm -/
def F20 : AF :=
  { ntmps := 5, results := [.tmp 2], pure := true, body :=
    .seq
      (.ops [⟨some 1, .box 27 (.t 0), none⟩, 
          ⟨some 2, .move (.c (.fsl 1 [])), none⟩] false)
      (.seq
        (.ops [⟨some 3, .load true 4 (.t 1), none⟩, 
            ⟨some 4, .call 48 [.c (.fsl 1 []), .t 3, .c (.int .i64 0)], none⟩, 
            ⟨some 2, .move (.t 4), none⟩] false)
        (.ret)) }

/- sequitur/sequiturref09.Loose -/
def F21 : AF :=
  { ntmps := 5, results := [.tmp 2], pure := true, body :=
    .seq
      (.ops [⟨some 1, .box 25 (.t 0), none⟩, 
          ⟨some 2, .move (.c (.fsl 1 [])), none⟩] false)
      (.seq
        (.ops [⟨some 3, .load true 5 (.t 1), none⟩, 
            ⟨some 4, .call 49 [.c (.fsl 1 []), .t 3, .c (.int .i64 0)], none⟩, 
            ⟨some 2, .move (.t 4), none⟩] false)
        (.ret)) }

/- sequitur/sequiturbase.Ints -/
def L22_0 : AC :=
  .seq
    (.seq
      (.ops [⟨some 11, .move (.t 5), none⟩, 
          ⟨some 12, .move (.t 0), none⟩, 
          ⟨some 13, .len (.t 12), none⟩, 
          ⟨some 14, .bin .lss (.t 11) (.t 13), none⟩] false)
      (.cond (.t 14)
        (.skip)
        (.exit 0)))
    (.seq
      (.block 1
        (.seq
          (.ops [⟨some 17, .move (.t 0), none⟩, 
              ⟨some 18, .move (.t 5), none⟩, 
              ⟨some 19, .idxA 1 (.t 17) (.t 18), none⟩, 
              ⟨some 20, .load false 1 (.t 19), none⟩, 
              ⟨some 21, .move (.t 1), none⟩, 
              ⟨some 22, .move (.t 5), none⟩, 
              ⟨some 23, .idxA 1 (.t 21) (.t 22), none⟩, 
              ⟨some 24, .load false 1 (.t 23), none⟩, 
              ⟨some 25, .bin .neq (.t 20) (.t 24), none⟩] true)
          (.cond (.t 25)
            (.seq
              (.ops [⟨some 4, .move (.c (.bool false)), none⟩] false)
              (.ret))
            (.skip))))
      (.ops [⟨some 15, .move (.t 5), none⟩, 
          ⟨some 16, .bin .add (.t 15) (.c (.int .i64 1)), none⟩, 
          ⟨some 5, .move (.t 16), none⟩] false))
def F22 : AF :=
  { ntmps := 26, results := [.tmp 4], pure := true, body :=
    .seq
      (.ops [⟨some 4, .move (.c (.bool false)), none⟩] false)
      (.seq
        (.seq
          (.ops [⟨some 6, .move (.t 0), none⟩, 
              ⟨some 7, .len (.t 6), none⟩, 
              ⟨some 8, .move (.t 1), none⟩, 
              ⟨some 9, .len (.t 8), none⟩, 
              ⟨some 10, .bin .neq (.t 7) (.t 9), none⟩] false)
          (.cond (.t 10)
            (.seq
              (.ops [⟨some 4, .move (.c (.bool false)), none⟩] false)
              (.ret))
            (.skip)))
        (.seq
          (.seq
            (.ops [⟨some 5, .move (.c (.int .i64 0)), none⟩] false)
            (.block 0
              (.loop L22_0)))
          (.seq
            (.ops [⟨some 4, .move (.c (.bool true)), none⟩] false)
            (.ret)))) }

/- sequitur/bind.Loose -/
def F23 : AF :=
  { ntmps := 9, results := [.tmp 2], pure := true, body :=
    .seq
      (.ops [⟨some 1, .box 25 (.t 0), none⟩, 
          ⟨some 2, .move (.c (.fsl 1 [])), none⟩] false)
      (.seq
        (.ops [⟨some 3, .alloc 42 [.fsl 1 []], none⟩] false)
        (.seq
          (.opsW [⟨some 4, .load true 5 (.t 1), none⟩, 
              ⟨some 5, .call 50 [.t 3], none⟩, 
              ⟨some 6, .call 1000038 [.t 4, .c (.int .i64 0), .t 5], none⟩])
          (.seq
            (.ops [⟨some 7, .load false 1 (.t 3), none⟩, 
                ⟨some 8, .call 51 [.t 7], none⟩, 
                ⟨some 2, .move (.t 8), none⟩] false)
            (.ret)))) }

/- sequitur/bind.LiftClaim -/
def F24 : AF :=
  { ntmps := 12, results := [.cell 6 true 5], pure := true, body :=
    .seq
      (.ops [⟨some 3, .box 25 (.t 0), none⟩, 
          ⟨some 6, .alloc 25 [.int .i64 0, .str ⟨#[]⟩, .str ⟨#[]⟩, .fsl 4 [], .fsl 5 []], none⟩] false)
      (.seq
        (.ops [⟨some 7, .load true 5 (.t 3), none⟩, 
            ⟨some 8, .move (.t 1), none⟩, 
            ⟨some 9, .move (.t 2), none⟩, 
            ⟨some 10, .call 52 [.t 8, .t 9], none⟩, 
            ⟨some 11, .call 38 [.t 7, .c (.int .i64 0), .t 10], none⟩, 
            ⟨none, .store 5 (.t 6) (.t 11), none⟩] true)
        (.ret)) }

/- sequitur/sequiturref09.LiftClaim -/
def F25 : AF :=
  { ntmps := 12, results := [.cell 6 true 5], pure := true, body :=
    .seq
      (.ops [⟨some 3, .box 25 (.t 0), none⟩, 
          ⟨some 6, .alloc 25 [.int .i64 0, .str ⟨#[]⟩, .str ⟨#[]⟩, .fsl 4 [], .fsl 5 []], none⟩] false)
      (.seq
        (.ops [⟨some 7, .move (.t 1), none⟩, 
            ⟨some 8, .move (.t 2), none⟩, 
            ⟨some 9, .build [.int .i64 0, .int .i64 0, .int .i64 0, .int .i64 0, .str ⟨#[]⟩, .int .i64 0, .fsl 4 [], .str ⟨#[]⟩] [(0, 1, .c (.int .i64 1)), (1, 1, .t 7), (2, 1, .t 8)], none⟩, 
            ⟨some 10, .load true 5 (.t 3), none⟩, 
            ⟨some 11, .call 41 [.t 9, .t 10, .c (.int .i64 0)], none⟩, 
            ⟨none, .store 5 (.t 6) (.t 11), none⟩] false)
        (.ret)) }

/- sequitur/sequiturbase.Term -/
def F26 : AF :=
  { ntmps := 31, results := [.tmp 4], pure := true, body :=
    .seq
      (.ops [⟨some 2, .box 27 (.t 0), none⟩, 
          ⟨some 3, .box 27 (.t 1), none⟩, 
          ⟨some 4, .move (.c (.bool false)), none⟩] false)
      (.seq
        (.ops [⟨some 5, .fieldA 0 (.t 2), none⟩, 
            ⟨some 6, .load false 1 (.t 5), none⟩, 
            ⟨some 7, .fieldA 0 (.t 3), none⟩, 
            ⟨some 8, .load false 1 (.t 7), none⟩, 
            ⟨some 9, .bin .eql (.t 6) (.t 8), none⟩, 
            ⟨some 10, .move (.t 9), none⟩, 
            ⟨some 11, .fieldA 1 (.t 2), some (10, true)⟩, 
            ⟨some 12, .load false 1 (.t 11), some (10, true)⟩, 
            ⟨some 13, .fieldA 1 (.t 3), some (10, true)⟩, 
            ⟨some 14, .load false 1 (.t 13), some (10, true)⟩, 
            ⟨some 15, .bin .eql (.t 12) (.t 14), some (10, true)⟩, 
            ⟨some 16, .pick (.t 10) (.t 15) (.c (.bool false)), none⟩, 
            ⟨some 17, .move (.t 16), none⟩, 
            ⟨some 18, .fieldA 2 (.t 2), some (17, true)⟩, 
            ⟨some 19, .load false 1 (.t 18), some (17, true)⟩, 
            ⟨some 20, .fieldA 2 (.t 3), some (17, true)⟩, 
            ⟨some 21, .load false 1 (.t 20), some (17, true)⟩, 
            ⟨some 22, .bin .eql (.t 19) (.t 21), some (17, true)⟩, 
            ⟨some 23, .pick (.t 17) (.t 22) (.c (.bool false)), none⟩, 
            ⟨some 24, .move (.t 23), none⟩, 
            ⟨some 25, .fieldA 3 (.t 2), some (24, true)⟩, 
            ⟨some 26, .load false 1 (.t 25), some (24, true)⟩, 
            ⟨some 27, .fieldA 3 (.t 3), some (24, true)⟩, 
            ⟨some 28, .load false 1 (.t 27), some (24, true)⟩, 
            ⟨some 29, .call 36 [.t 26, .t 28], some (24, true)⟩, 
            ⟨some 30, .pick (.t 24) (.t 29) (.c (.bool false)), none⟩, 
            ⟨some 4, .move (.t 30), none⟩] false)
        (.ret)) }

/- sequitur/bind.Lift -/
def F27 : AF :=
  { ntmps := 9, results := [.cell 4 true 4], pure := true, body :=
    .seq
      (.ops [⟨some 2, .box 27 (.t 0), none⟩, 
          ⟨some 4, .alloc 27 [.int .i64 0, .str ⟨#[]⟩, .int .i64 0, .fsl 4 []], none⟩] false)
      (.seq
        (.ops [⟨some 5, .load true 4 (.t 2), none⟩, 
            ⟨some 6, .move (.t 1), none⟩, 
            ⟨some 7, .call 52 [.t 6, .c (.int .i64 0)], none⟩, 
            ⟨some 8, .call 53 [.t 5, .c (.int .i64 0), .t 7], none⟩, 
            ⟨none, .store 4 (.t 4) (.t 8), none⟩] true)
        (.ret)) }

/- sequitur/sequiturref09.Lift -/
def F28 : AF :=
  { ntmps := 9, results := [.cell 4 true 4], pure := true, body :=
    .seq
      (.ops [⟨some 2, .box 27 (.t 0), none⟩, 
          ⟨some 4, .alloc 27 [.int .i64 0, .str ⟨#[]⟩, .int .i64 0, .fsl 4 []], none⟩] false)
      (.seq
        (.ops [⟨some 5, .move (.t 1), none⟩, 
            ⟨some 6, .build [.int .i64 0, .int .i64 0, .int .i64 0, .int .i64 0, .str ⟨#[]⟩, .int .i64 0, .fsl 4 [], .str ⟨#[]⟩] [(0, 1, .c (.int .i64 1)), (1, 1, .t 5)], none⟩, 
            ⟨some 7, .load true 4 (.t 2), none⟩, 
            ⟨some 8, .call 54 [.t 6, .t 7, .c (.int .i64 0)], none⟩, 
            ⟨none, .store 4 (.t 4) (.t 8), none⟩] false)
        (.ret)) }

/- sequitur/sequiturref09.Close -/
def F29 : AF :=
  { ntmps := 9, results := [.cell 4 true 5], pure := true, body :=
    .seq
      (.ops [⟨some 2, .box 25 (.t 0), none⟩, 
          ⟨some 4, .alloc 25 [.int .i64 0, .str ⟨#[]⟩, .str ⟨#[]⟩, .fsl 4 [], .fsl 5 []], none⟩] false)
      (.seq
        (.ops [⟨some 5, .move (.t 1), none⟩, 
            ⟨some 6, .build [.int .i64 0, .int .i64 0, .int .i64 0, .int .i64 0, .str ⟨#[]⟩, .int .i64 0, .fsl 4 [], .str ⟨#[]⟩] [(0, 1, .c (.int .i64 3)), (7, 1, .t 5)], none⟩, 
            ⟨some 7, .load true 5 (.t 2), none⟩, 
            ⟨some 8, .call 41 [.t 6, .t 7, .c (.int .i64 0)], none⟩, 
            ⟨none, .store 5 (.t 4) (.t 8), none⟩] false)
        (.ret)) }

/- sequitur/bind.All -/
def F30 : AF :=
  { ntmps := 11, results := [.cell 6 true 5], pure := true, body :=
    .seq
      (.ops [⟨some 5, .box 25 (.t 2), none⟩, 
          ⟨some 6, .alloc 25 [.int .i64 0, .str ⟨#[]⟩, .str ⟨#[]⟩, .fsl 4 [], .fsl 5 []], none⟩] false)
      (.seq
        (.ops [⟨some 7, .move (.t 0), none⟩, 
            ⟨some 8, .move (.t 1), none⟩, 
            ⟨some 9, .load true 5 (.t 5), none⟩, 
            ⟨some 10, .call 55 [.c (.int .i64 11), .t 7, .t 8, .t 9], none⟩, 
            ⟨none, .store 5 (.t 6) (.t 10), none⟩] false)
        (.ret)) }

/- sequitur/bind.Ex -/
def F31 : AF :=
  { ntmps := 11, results := [.cell 6 true 5], pure := true, body :=
    .seq
      (.ops [⟨some 5, .box 25 (.t 2), none⟩, 
          ⟨some 6, .alloc 25 [.int .i64 0, .str ⟨#[]⟩, .str ⟨#[]⟩, .fsl 4 [], .fsl 5 []], none⟩] false)
      (.seq
        (.ops [⟨some 7, .move (.t 0), none⟩, 
            ⟨some 8, .move (.t 1), none⟩, 
            ⟨some 9, .load true 5 (.t 5), none⟩, 
            ⟨some 10, .call 55 [.c (.int .i64 12), .t 7, .t 8, .t 9], none⟩, 
            ⟨none, .store 5 (.t 6) (.t 10), none⟩] false)
        (.ret)) }

/- sequitur/bind.LooseTerm -/
def F32 : AF :=
  { ntmps := 9, results := [.tmp 2], pure := true, body :=
    .seq
      (.ops [⟨some 1, .box 27 (.t 0), none⟩, 
          ⟨some 2, .move (.c (.fsl 1 [])), none⟩] false)
      (.seq
        (.ops [⟨some 3, .alloc 42 [.fsl 1 []], none⟩] false)
        (.seq
          (.opsW [⟨some 4, .load true 4 (.t 1), none⟩, 
              ⟨some 5, .call 50 [.t 3], none⟩, 
              ⟨some 6, .call 1000053 [.t 4, .c (.int .i64 0), .t 5], none⟩])
          (.seq
            (.ops [⟨some 7, .load false 1 (.t 3), none⟩, 
                ⟨some 8, .call 51 [.t 7], none⟩, 
                ⟨some 2, .move (.t 8), none⟩] false)
            (.ret)))) }

/- sequitur/bind.Closed -/
def F33 : AF :=
  { ntmps := 7, results := [.tmp 2], pure := true, body :=
    .seq
      (.ops [⟨some 1, .box 25 (.t 0), none⟩, 
          ⟨some 2, .move (.c (.bool false)), none⟩] false)
      (.seq
        (.ops [⟨some 3, .load true 5 (.t 1), none⟩, 
            ⟨some 4, .call 23 [.t 3], none⟩, 
            ⟨some 5, .len (.t 4), none⟩, 
            ⟨some 6, .bin .eql (.t 5) (.c (.int .i64 0)), none⟩, 
            ⟨some 2, .move (.t 6), none⟩] false)
        (.ret)) }

/- sequitur/sequiturbase.Claim -/
def F34 : AF :=
  { ntmps := 46, results := [.tmp 4], pure := true, body :=
    .seq
      (.ops [⟨some 2, .box 25 (.t 0), none⟩, 
          ⟨some 3, .box 25 (.t 1), none⟩, 
          ⟨some 4, .move (.c (.bool false)), none⟩] false)
      (.seq
        (.seq
          (.ops [⟨some 5, .fieldA 0 (.t 2), none⟩, 
              ⟨some 6, .load false 1 (.t 5), none⟩, 
              ⟨some 7, .fieldA 0 (.t 3), none⟩, 
              ⟨some 8, .load false 1 (.t 7), none⟩, 
              ⟨some 9, .bin .neq (.t 6) (.t 8), none⟩, 
              ⟨some 10, .move (.t 9), none⟩, 
              ⟨some 11, .fieldA 2 (.t 2), some (10, false)⟩, 
              ⟨some 12, .load false 1 (.t 11), some (10, false)⟩, 
              ⟨some 13, .fieldA 2 (.t 3), some (10, false)⟩, 
              ⟨some 14, .load false 1 (.t 13), some (10, false)⟩, 
              ⟨some 15, .bin .neq (.t 12) (.t 14), some (10, false)⟩, 
              ⟨some 16, .pick (.t 10) (.c (.bool true)) (.t 15), none⟩, 
              ⟨some 17, .move (.t 16), none⟩, 
              ⟨some 18, .fieldA 0 (.t 2), some (17, false)⟩, 
              ⟨some 19, .load false 1 (.t 18), some (17, false)⟩, 
              ⟨some 20, .bin .neq (.t 19) (.c (.int .i64 11)), some (17, false)⟩, 
              ⟨some 21, .move (.t 20), some (17, false)⟩, 
              ⟨some 22, .fieldA 0 (.t 2), some (21, true)⟩, 
              ⟨some 23, .load false 1 (.t 22), some (21, true)⟩, 
              ⟨some 24, .bin .neq (.t 23) (.c (.int .i64 12)), some (21, true)⟩, 
              ⟨some 25, .pick (.t 21) (.t 24) (.c (.bool false)), some (17, false)⟩, 
              ⟨some 26, .move (.t 25), some (17, false)⟩, 
              ⟨some 27, .fieldA 1 (.t 2), some (26, true)⟩, 
              ⟨some 28, .load false 1 (.t 27), some (26, true)⟩, 
              ⟨some 29, .fieldA 1 (.t 3), some (26, true)⟩, 
              ⟨some 30, .load false 1 (.t 29), some (26, true)⟩, 
              ⟨some 31, .bin .neq (.t 28) (.t 30), some (26, true)⟩, 
              ⟨some 32, .pick (.t 26) (.t 31) (.c (.bool false)), some (17, false)⟩, 
              ⟨some 33, .pick (.t 17) (.c (.bool true)) (.t 32), none⟩] false)
          (.cond (.t 33)
            (.seq
              (.ops [⟨some 4, .move (.c (.bool false)), none⟩] false)
              (.ret))
            (.skip)))
        (.seq
          (.ops [⟨some 34, .fieldA 3 (.t 2), none⟩, 
              ⟨some 35, .load false 1 (.t 34), none⟩, 
              ⟨some 36, .fieldA 3 (.t 3), none⟩, 
              ⟨some 37, .load false 1 (.t 36), none⟩, 
              ⟨some 38, .call 36 [.t 35, .t 37], none⟩, 
              ⟨some 39, .move (.t 38), none⟩, 
              ⟨some 40, .fieldA 4 (.t 2), some (39, true)⟩, 
              ⟨some 41, .load false 1 (.t 40), some (39, true)⟩, 
              ⟨some 42, .fieldA 4 (.t 3), some (39, true)⟩, 
              ⟨some 43, .load false 1 (.t 42), some (39, true)⟩, 
              ⟨some 44, .call 56 [.t 41, .t 43], some (39, true)⟩, 
              ⟨some 45, .pick (.t 39) (.t 44) (.c (.bool false)), none⟩, 
              ⟨some 4, .move (.t 45), none⟩] false)
          (.ret))) }

/- sequitur/sequiturbase.weight -/
def L35_0 : AC :=
  .seq
    (.seq
      (.ops [⟨some 8, .move (.t 6), none⟩, 
          ⟨some 9, .fieldA 3 (.t 2), none⟩, 
          ⟨some 10, .load false 1 (.t 9), none⟩, 
          ⟨some 11, .len (.t 10), none⟩, 
          ⟨some 12, .bin .lss (.t 8) (.t 11), none⟩, 
          ⟨some 13, .move (.t 12), none⟩, 
          ⟨some 14, .move (.t 5), some (13, true)⟩, 
          ⟨some 15, .move (.t 1), some (13, true)⟩, 
          ⟨some 16, .bin .leq (.t 14) (.t 15), some (13, true)⟩, 
          ⟨some 17, .pick (.t 13) (.t 16) (.c (.bool false)), none⟩] false)
      (.cond (.t 17)
        (.skip)
        (.exit 0)))
    (.seq
      (.block 1
        (.ops [⟨some 20, .move (.t 5), none⟩, 
            ⟨some 21, .fieldA 3 (.t 2), none⟩, 
            ⟨some 22, .load false 1 (.t 21), none⟩, 
            ⟨some 23, .move (.t 6), none⟩, 
            ⟨some 24, .idxA 4 (.t 22) (.t 23), none⟩, 
            ⟨some 25, .load true 4 (.t 24), none⟩, 
            ⟨some 26, .move (.t 1), none⟩, 
            ⟨some 27, .move (.t 5), none⟩, 
            ⟨some 28, .bin .sub (.t 26) (.t 27), none⟩, 
            ⟨some 29, .call 11 [.t 25, .t 28], none⟩, 
            ⟨some 30, .bin .add (.t 20) (.t 29), none⟩, 
            ⟨some 5, .move (.t 30), none⟩] false))
      (.ops [⟨some 18, .move (.t 6), none⟩, 
          ⟨some 19, .bin .add (.t 18) (.c (.int .i64 1)), none⟩, 
          ⟨some 6, .move (.t 19), none⟩] false))

def L35_1 : AC :=
  .seq
    (.seq
      (.ops [⟨some 31, .move (.t 7), none⟩, 
          ⟨some 32, .fieldA 4 (.t 2), none⟩, 
          ⟨some 33, .load false 1 (.t 32), none⟩, 
          ⟨some 34, .len (.t 33), none⟩, 
          ⟨some 35, .bin .lss (.t 31) (.t 34), none⟩, 
          ⟨some 36, .move (.t 35), none⟩, 
          ⟨some 37, .move (.t 5), some (36, true)⟩, 
          ⟨some 38, .move (.t 1), some (36, true)⟩, 
          ⟨some 39, .bin .leq (.t 37) (.t 38), some (36, true)⟩, 
          ⟨some 40, .pick (.t 36) (.t 39) (.c (.bool false)), none⟩] false)
      (.cond (.t 40)
        (.skip)
        (.exit 2)))
    (.seq
      (.block 3
        (.ops [⟨some 43, .move (.t 5), none⟩, 
            ⟨some 44, .fieldA 4 (.t 2), none⟩, 
            ⟨some 45, .load false 1 (.t 44), none⟩, 
            ⟨some 46, .move (.t 7), none⟩, 
            ⟨some 47, .idxA 5 (.t 45) (.t 46), none⟩, 
            ⟨some 48, .load true 5 (.t 47), none⟩, 
            ⟨some 49, .move (.t 1), none⟩, 
            ⟨some 50, .move (.t 5), none⟩, 
            ⟨some 51, .bin .sub (.t 49) (.t 50), none⟩, 
            ⟨some 52, .call 35 [.t 48, .t 51], none⟩, 
            ⟨some 53, .bin .add (.t 43) (.t 52), none⟩, 
            ⟨some 5, .move (.t 53), none⟩] false))
      (.ops [⟨some 41, .move (.t 7), none⟩, 
          ⟨some 42, .bin .add (.t 41) (.c (.int .i64 1)), none⟩, 
          ⟨some 7, .move (.t 42), none⟩] false))
def F35 : AF :=
  { ntmps := 55, results := [.tmp 4], pure := true, body :=
    .seq
      (.ops [⟨some 2, .box 25 (.t 0), none⟩, 
          ⟨some 4, .move (.c (.int .i64 0)), none⟩] false)
      (.seq
        (.ops [⟨some 5, .move (.c (.int .i64 1)), none⟩] false)
        (.seq
          (.seq
            (.ops [⟨some 6, .move (.c (.int .i64 0)), none⟩] false)
            (.block 0
              (.loop L35_0)))
          (.seq
            (.seq
              (.ops [⟨some 7, .move (.c (.int .i64 0)), none⟩] false)
              (.block 2
                (.loop L35_1)))
            (.seq
              (.ops [⟨some 54, .move (.t 5), none⟩, 
                  ⟨some 4, .move (.t 54), none⟩] false)
              (.ret))))) }

/- sequitur/sequiturbase.Terms -/
def L36_0 : AC :=
  .seq
    (.seq
      (.ops [⟨some 11, .move (.t 5), none⟩, 
          ⟨some 12, .move (.t 0), none⟩, 
          ⟨some 13, .len (.t 12), none⟩, 
          ⟨some 14, .bin .lss (.t 11) (.t 13), none⟩] false)
      (.cond (.t 14)
        (.skip)
        (.exit 0)))
    (.seq
      (.block 1
        (.seq
          (.ops [⟨some 17, .move (.t 0), none⟩, 
              ⟨some 18, .move (.t 5), none⟩, 
              ⟨some 19, .idxA 4 (.t 17) (.t 18), none⟩, 
              ⟨some 20, .load true 4 (.t 19), none⟩, 
              ⟨some 21, .move (.t 1), none⟩, 
              ⟨some 22, .move (.t 5), none⟩, 
              ⟨some 23, .idxA 4 (.t 21) (.t 22), none⟩, 
              ⟨some 24, .load true 4 (.t 23), none⟩, 
              ⟨some 25, .call 26 [.t 20, .t 24], none⟩, 
              ⟨some 26, .not (.t 25), none⟩] true)
          (.cond (.t 26)
            (.seq
              (.ops [⟨some 4, .move (.c (.bool false)), none⟩] false)
              (.ret))
            (.skip))))
      (.ops [⟨some 15, .move (.t 5), none⟩, 
          ⟨some 16, .bin .add (.t 15) (.c (.int .i64 1)), none⟩, 
          ⟨some 5, .move (.t 16), none⟩] false))
def F36 : AF :=
  { ntmps := 27, results := [.tmp 4], pure := true, body :=
    .seq
      (.ops [⟨some 4, .move (.c (.bool false)), none⟩] false)
      (.seq
        (.seq
          (.ops [⟨some 6, .move (.t 0), none⟩, 
              ⟨some 7, .len (.t 6), none⟩, 
              ⟨some 8, .move (.t 1), none⟩, 
              ⟨some 9, .len (.t 8), none⟩, 
              ⟨some 10, .bin .neq (.t 7) (.t 9), none⟩] false)
          (.cond (.t 10)
            (.seq
              (.ops [⟨some 4, .move (.c (.bool false)), none⟩] false)
              (.ret))
            (.skip)))
        (.seq
          (.seq
            (.ops [⟨some 5, .move (.c (.int .i64 0)), none⟩] false)
            (.block 0
              (.loop L36_0)))
          (.seq
            (.ops [⟨some 4, .move (.c (.bool true)), none⟩] false)
            (.ret)))) }

/- sequitur/sequiturbase.Exacts -/
def L37_0 : AC :=
  .seq
    (.seq
      (.ops [⟨some 11, .move (.t 5), none⟩, 
          ⟨some 12, .move (.t 0), none⟩, 
          ⟨some 13, .len (.t 12), none⟩, 
          ⟨some 14, .bin .lss (.t 11) (.t 13), none⟩] false)
      (.cond (.t 14)
        (.skip)
        (.exit 0)))
    (.seq
      (.block 1
        (.seq
          (.ops [⟨some 17, .move (.t 0), none⟩, 
              ⟨some 18, .move (.t 5), none⟩, 
              ⟨some 19, .idxA 5 (.t 17) (.t 18), none⟩, 
              ⟨some 20, .load true 5 (.t 19), none⟩, 
              ⟨some 21, .move (.t 1), none⟩, 
              ⟨some 22, .move (.t 5), none⟩, 
              ⟨some 23, .idxA 5 (.t 21) (.t 22), none⟩, 
              ⟨some 24, .load true 5 (.t 23), none⟩, 
              ⟨some 25, .call 12 [.t 20, .t 24], none⟩, 
              ⟨some 26, .not (.t 25), none⟩] true)
          (.cond (.t 26)
            (.seq
              (.ops [⟨some 4, .move (.c (.bool false)), none⟩] false)
              (.ret))
            (.skip))))
      (.ops [⟨some 15, .move (.t 5), none⟩, 
          ⟨some 16, .bin .add (.t 15) (.c (.int .i64 1)), none⟩, 
          ⟨some 5, .move (.t 16), none⟩] false))
def F37 : AF :=
  { ntmps := 27, results := [.tmp 4], pure := true, body :=
    .seq
      (.ops [⟨some 4, .move (.c (.bool false)), none⟩] false)
      (.seq
        (.seq
          (.ops [⟨some 6, .move (.t 0), none⟩, 
              ⟨some 7, .len (.t 6), none⟩, 
              ⟨some 8, .move (.t 1), none⟩, 
              ⟨some 9, .len (.t 8), none⟩, 
              ⟨some 10, .bin .neq (.t 7) (.t 9), none⟩] false)
          (.cond (.t 10)
            (.seq
              (.ops [⟨some 4, .move (.c (.bool false)), none⟩] false)
              (.ret))
            (.skip)))
        (.seq
          (.seq
            (.ops [⟨some 5, .move (.c (.int .i64 0)), none⟩] false)
            (.block 0
              (.loop L37_0)))
          (.seq
            (.ops [⟨some 4, .move (.c (.bool true)), none⟩] false)
            (.ret)))) }

/- sequitur/bind.walk -/
def L38_0 : AC :=
  .seq
    (.ops [⟨some 23, .bin .lss (.t 22) (.t 21), none⟩] false)
    (.seq
      (.cond (.t 23)
        (.skip)
        (.exit 0))
      (.seq
        (.block 1
          (.seq
            (.ops [⟨some 24, .idxA 4 (.t 20) (.t 22), none⟩, 
                ⟨some 25, .load true 4 (.t 24), none⟩, 
                ⟨some 9, .alloc 27 [.int .i64 0, .str ⟨#[]⟩, .int .i64 0, .fsl 4 []], none⟩, 
                ⟨none, .store 4 (.t 9) (.t 25), none⟩] false)
            (.ops [⟨some 26, .fieldA 3 (.t 7), none⟩, 
                ⟨some 27, .load false 1 (.t 26), none⟩, 
                ⟨some 28, .load true 4 (.t 9), none⟩, 
                ⟨some 29, .move (.t 1), none⟩, 
                ⟨some 30, .move (.t 2), none⟩, 
                ⟨some 31, .call 53 [.t 28, .t 29, .t 30], none⟩, 
                ⟨some 32, .buildSl 4 [.int .i64 0, .str ⟨#[]⟩, .int .i64 0, .fsl 4 []] 1 [(0, .t 31)], none⟩, 
                ⟨some 33, .append 27 4 56 (.t 27) (.t 32), none⟩, 
                ⟨some 34, .fieldA 3 (.t 7), none⟩, 
                ⟨none, .store 1 (.t 34) (.t 33), none⟩] true)))
        (.ops [⟨some 35, .bin .add (.t 22) (.c (.int .i64 1)), none⟩, 
            ⟨some 22, .move (.t 35), none⟩] false)))

def L38_1 : AC :=
  .seq
    (.ops [⟨some 50, .bin .lss (.t 49) (.t 48), none⟩] false)
    (.seq
      (.cond (.t 50)
        (.skip)
        (.exit 2))
      (.seq
        (.block 3
          (.seq
            (.ops [⟨some 51, .idxA 5 (.t 47) (.t 49), none⟩, 
                ⟨some 52, .load true 5 (.t 51), none⟩, 
                ⟨some 11, .alloc 25 [.int .i64 0, .str ⟨#[]⟩, .str ⟨#[]⟩, .fsl 4 [], .fsl 5 []], none⟩, 
                ⟨none, .store 5 (.t 11) (.t 52), none⟩] false)
            (.ops [⟨some 53, .fieldA 4 (.t 7), none⟩, 
                ⟨some 54, .load false 1 (.t 53), none⟩, 
                ⟨some 55, .load true 5 (.t 11), none⟩, 
                ⟨some 56, .move (.t 1), none⟩, 
                ⟨some 57, .move (.t 2), none⟩, 
                ⟨some 58, .call 38 [.t 55, .t 56, .t 57], none⟩, 
                ⟨some 59, .buildSl 5 [.int .i64 0, .str ⟨#[]⟩, .str ⟨#[]⟩, .fsl 4 [], .fsl 5 []] 1 [(0, .t 58)], none⟩, 
                ⟨some 60, .append 25 5 88 (.t 54) (.t 59), none⟩, 
                ⟨some 61, .fieldA 4 (.t 7), none⟩, 
                ⟨none, .store 1 (.t 61) (.t 60), none⟩] true)))
        (.ops [⟨some 62, .bin .add (.t 49) (.c (.int .i64 1)), none⟩, 
            ⟨some 49, .move (.t 62), none⟩] false)))
def F38 : AF :=
  { ntmps := 64, results := [.cell 6 true 5], pure := true, body :=
    .seq
      (.ops [⟨some 3, .box 25 (.t 0), none⟩, 
          ⟨some 6, .alloc 25 [.int .i64 0, .str ⟨#[]⟩, .str ⟨#[]⟩, .fsl 4 [], .fsl 5 []], none⟩] false)
      (.seq
        (.ops [⟨some 12, .fieldA 0 (.t 3), none⟩, 
            ⟨some 13, .load false 1 (.t 12), none⟩, 
            ⟨some 14, .fieldA 1 (.t 3), none⟩, 
            ⟨some 15, .load false 1 (.t 14), none⟩, 
            ⟨some 16, .fieldA 2 (.t 3), none⟩, 
            ⟨some 17, .load false 1 (.t 16), none⟩, 
            ⟨some 18, .build [.int .i64 0, .str ⟨#[]⟩, .str ⟨#[]⟩, .fsl 4 [], .fsl 5 []] [(0, 1, .t 13), (1, 1, .t 15), (2, 1, .t 17)], none⟩, 
            ⟨some 7, .alloc 25 [.int .i64 0, .str ⟨#[]⟩, .str ⟨#[]⟩, .fsl 4 [], .fsl 5 []], none⟩, 
            ⟨none, .store 5 (.t 7) (.t 18), none⟩] false)
        (.seq
          (.seq
            (.ops [⟨some 19, .fieldA 3 (.t 3), none⟩, 
                ⟨some 20, .load false 1 (.t 19), none⟩, 
                ⟨some 21, .len (.t 20), none⟩, 
                ⟨some 22, .move (.c (.int .i64 0)), none⟩] false)
            (.block 0
              (.loop L38_0)))
          (.seq
            (.seq
              (.ops [⟨some 36, .fieldA 0 (.t 3), none⟩, 
                  ⟨some 37, .load false 1 (.t 36), none⟩, 
                  ⟨some 38, .bin .eql (.t 37) (.c (.int .i64 11)), none⟩, 
                  ⟨some 39, .move (.t 38), none⟩, 
                  ⟨some 40, .fieldA 0 (.t 3), some (39, false)⟩, 
                  ⟨some 41, .load false 1 (.t 40), some (39, false)⟩, 
                  ⟨some 42, .bin .eql (.t 41) (.c (.int .i64 12)), some (39, false)⟩, 
                  ⟨some 43, .pick (.t 39) (.c (.bool true)) (.t 42), none⟩] false)
              (.cond (.t 43)
                (.ops [⟨some 44, .move (.t 1), none⟩, 
                    ⟨some 45, .bin .add (.t 44) (.c (.int .i64 1)), none⟩, 
                    ⟨some 1, .move (.t 45), none⟩] false)
                (.skip)))
            (.seq
              (.seq
                (.ops [⟨some 46, .fieldA 4 (.t 3), none⟩, 
                    ⟨some 47, .load false 1 (.t 46), none⟩, 
                    ⟨some 48, .len (.t 47), none⟩, 
                    ⟨some 49, .move (.c (.int .i64 0)), none⟩] false)
                (.block 2
                  (.loop L38_1)))
              (.seq
                (.ops [⟨some 63, .load true 5 (.t 7), none⟩, 
                    ⟨none, .store 5 (.t 6) (.t 63), none⟩] false)
                (.ret)))))) }

/- sequitur/bind.Open$1 -/
def F39 : AF :=
  { ntmps := 29, results := [.cell 5 true 4, .tmp 6], pure := true, body :=
    .seq
      (.ops [⟨some 3, .box 27 (.t 0), none⟩, 
          ⟨some 5, .alloc 27 [.int .i64 0, .str ⟨#[]⟩, .int .i64 0, .fsl 4 []], none⟩, 
          ⟨some 6, .move (.c (.bool false)), none⟩] false)
      (.seq
        (.ops [⟨some 10, .load true 4 (.t 3), none⟩, 
            ⟨some 11, .move (.t 1), none⟩, 
            ⟨some 12, .call 40 [.t 10, .t 11], none⟩, 
            ⟨some 9, .move (.t 12), none⟩, 
            ⟨some 13, .extract (.t 9) 0, none⟩, 
            ⟨some 14, .extract (.t 9) 1, none⟩, 
            ⟨some 7, .move (.t 13), none⟩, 
            ⟨some 8, .move (.t 14), none⟩] false)
        (.seq
          (.seq
            (.ops [⟨some 15, .move (.t 8), none⟩, 
                ⟨some 16, .move (.t 15), none⟩, 
                ⟨some 17, .move (.t 7), some (16, true)⟩, 
                ⟨some 18, .bin .eql (.t 17) (.c (.int .i64 0)), some (16, true)⟩, 
                ⟨some 19, .pick (.t 16) (.t 18) (.c (.bool false)), none⟩] false)
            (.cond (.t 19)
              (.seq
                (.ops [⟨some 20, .load true 4 (.t 2), none⟩, 
                    ⟨some 21, .move (.t 1), none⟩, 
                    ⟨some 22, .call 27 [.t 20, .t 21], none⟩, 
                    ⟨none, .store 4 (.t 5) (.t 22), none⟩, 
                    ⟨some 6, .move (.c (.bool true)), none⟩] false)
                (.ret))
              (.skip)))
          (.seq
            (.seq
              (.ops [⟨some 23, .move (.t 8), none⟩] false)
              (.cond (.t 23)
                (.ops [⟨some 24, .fieldA 2 (.t 3), none⟩, 
                    ⟨some 25, .load false 1 (.t 24), none⟩, 
                    ⟨some 26, .bin .sub (.t 25) (.c (.int .i64 1)), none⟩, 
                    ⟨some 27, .fieldA 2 (.t 3), none⟩, 
                    ⟨none, .store 1 (.t 27) (.t 26), none⟩] false)
                (.skip)))
            (.seq
              (.ops [⟨some 28, .load true 4 (.t 3), none⟩, 
                  ⟨none, .store 4 (.t 5) (.t 28), none⟩, 
                  ⟨some 6, .move (.c (.bool false)), none⟩] false)
              (.ret))))) }

/- sequitur/bind.loose -/
def F40 : AF :=
  { ntmps := 19, results := [.tmp 4, .tmp 5], pure := true, body :=
    .seq
      (.ops [⟨some 2, .box 27 (.t 0), none⟩, 
          ⟨some 4, .move (.c (.int .i64 0)), none⟩, 
          ⟨some 5, .move (.c (.bool false)), none⟩] false)
      (.seq
        (.seq
          (.ops [⟨some 6, .fieldA 0 (.t 2), none⟩, 
              ⟨some 7, .load false 1 (.t 6), none⟩, 
              ⟨some 8, .bin .neq (.t 7) (.c (.int .i64 2)), none⟩, 
              ⟨some 9, .move (.t 8), none⟩, 
              ⟨some 10, .fieldA 2 (.t 2), some (9, false)⟩, 
              ⟨some 11, .load false 1 (.t 10), some (9, false)⟩, 
              ⟨some 12, .move (.t 1), some (9, false)⟩, 
              ⟨some 13, .bin .lss (.t 11) (.t 12), some (9, false)⟩, 
              ⟨some 14, .pick (.t 9) (.c (.bool true)) (.t 13), none⟩] false)
          (.cond (.t 14)
            (.seq
              (.ops [⟨some 4, .move (.c (.int .i64 0)), none⟩, 
                  ⟨some 5, .move (.c (.bool false)), none⟩] false)
              (.ret))
            (.skip)))
        (.seq
          (.ops [⟨some 15, .fieldA 2 (.t 2), none⟩, 
              ⟨some 16, .load false 1 (.t 15), none⟩, 
              ⟨some 17, .move (.t 1), none⟩, 
              ⟨some 18, .bin .sub (.t 16) (.t 17), none⟩, 
              ⟨some 4, .move (.t 18), none⟩, 
              ⟨some 5, .move (.c (.bool true)), none⟩] false)
          (.ret))) }

/- sequitur/sequiturref09.Claim -/
def L41_0 : AC :=
  .seq
    (.seq
      (.ops [⟨some 13, .move (.t 8), none⟩, 
          ⟨some 14, .fieldA 3 (.t 4), none⟩, 
          ⟨some 15, .load false 1 (.t 14), none⟩, 
          ⟨some 16, .len (.t 15), none⟩, 
          ⟨some 17, .bin .lss (.t 13) (.t 16), none⟩] false)
      (.cond (.t 17)
        (.skip)
        (.exit 0)))
    (.seq
      (.block 1
        (.ops [⟨some 20, .fieldA 3 (.t 7), none⟩, 
            ⟨some 21, .load false 1 (.t 20), none⟩, 
            ⟨some 22, .load true 8 (.t 3), none⟩, 
            ⟨some 23, .fieldA 3 (.t 4), none⟩, 
            ⟨some 24, .load false 1 (.t 23), none⟩, 
            ⟨some 25, .move (.t 8), none⟩, 
            ⟨some 26, .idxA 4 (.t 24) (.t 25), none⟩, 
            ⟨some 27, .load true 4 (.t 26), none⟩, 
            ⟨some 28, .move (.t 2), none⟩, 
            ⟨some 29, .call 54 [.t 22, .t 27, .t 28], none⟩, 
            ⟨some 30, .buildSl 4 [.int .i64 0, .str ⟨#[]⟩, .int .i64 0, .fsl 4 []] 1 [(0, .t 29)], none⟩, 
            ⟨some 31, .append 27 4 56 (.t 21) (.t 30), none⟩, 
            ⟨some 32, .fieldA 3 (.t 7), none⟩, 
            ⟨none, .store 1 (.t 32) (.t 31), none⟩] true))
      (.ops [⟨some 18, .move (.t 8), none⟩, 
          ⟨some 19, .bin .add (.t 18) (.c (.int .i64 1)), none⟩, 
          ⟨some 8, .move (.t 19), none⟩] false))

def L41_1 : AC :=
  .seq
    (.seq
      (.ops [⟨some 33, .move (.t 9), none⟩, 
          ⟨some 34, .fieldA 4 (.t 4), none⟩, 
          ⟨some 35, .load false 1 (.t 34), none⟩, 
          ⟨some 36, .len (.t 35), none⟩, 
          ⟨some 37, .bin .lss (.t 33) (.t 36), none⟩] false)
      (.cond (.t 37)
        (.skip)
        (.exit 2)))
    (.seq
      (.block 3
        (.ops [⟨some 40, .fieldA 4 (.t 7), none⟩, 
            ⟨some 41, .load false 1 (.t 40), none⟩, 
            ⟨some 42, .load true 8 (.t 3), none⟩, 
            ⟨some 43, .fieldA 4 (.t 4), none⟩, 
            ⟨some 44, .load false 1 (.t 43), none⟩, 
            ⟨some 45, .move (.t 9), none⟩, 
            ⟨some 46, .idxA 5 (.t 44) (.t 45), none⟩, 
            ⟨some 47, .load true 5 (.t 46), none⟩, 
            ⟨some 48, .load true 5 (.t 4), none⟩, 
            ⟨some 49, .move (.t 2), none⟩, 
            ⟨some 50, .call 57 [.t 48, .t 49], none⟩, 
            ⟨some 51, .call 41 [.t 42, .t 47, .t 50], none⟩, 
            ⟨some 52, .buildSl 5 [.int .i64 0, .str ⟨#[]⟩, .str ⟨#[]⟩, .fsl 4 [], .fsl 5 []] 1 [(0, .t 51)], none⟩, 
            ⟨some 53, .append 25 5 88 (.t 41) (.t 52), none⟩, 
            ⟨some 54, .fieldA 4 (.t 7), none⟩, 
            ⟨none, .store 1 (.t 54) (.t 53), none⟩] true))
      (.ops [⟨some 38, .move (.t 9), none⟩, 
          ⟨some 39, .bin .add (.t 38) (.c (.int .i64 1)), none⟩, 
          ⟨some 9, .move (.t 39), none⟩] false))
def F41 : AF :=
  { ntmps := 56, results := [.cell 6 true 5], pure := true, body :=
    .seq
      (.ops [⟨some 3, .box 62 (.t 0), none⟩, 
          ⟨some 4, .box 25 (.t 1), none⟩, 
          ⟨some 6, .alloc 25 [.int .i64 0, .str ⟨#[]⟩, .str ⟨#[]⟩, .fsl 4 [], .fsl 5 []], none⟩] false)
      (.seq
        (.ops [⟨some 10, .load true 5 (.t 4), none⟩, 
            ⟨some 7, .alloc 25 [.int .i64 0, .str ⟨#[]⟩, .str ⟨#[]⟩, .fsl 4 [], .fsl 5 []], none⟩, 
            ⟨none, .store 5 (.t 7) (.t 10), none⟩] false)
        (.seq
          (.ops [⟨some 11, .fieldA 3 (.t 7), none⟩, 
              ⟨none, .store 1 (.t 11) (.c (.fsl 4 [])), none⟩] false)
          (.seq
            (.ops [⟨some 12, .fieldA 4 (.t 7), none⟩, 
                ⟨none, .store 1 (.t 12) (.c (.fsl 5 [])), none⟩] false)
            (.seq
              (.seq
                (.ops [⟨some 8, .move (.c (.int .i64 0)), none⟩] false)
                (.block 0
                  (.loop L41_0)))
              (.seq
                (.seq
                  (.ops [⟨some 9, .move (.c (.int .i64 0)), none⟩] false)
                  (.block 2
                    (.loop L41_1)))
                (.seq
                  (.ops [⟨some 55, .load true 5 (.t 7), none⟩, 
                      ⟨none, .store 5 (.t 6) (.t 55), none⟩] false)
                  (.ret))))))) }

/- sequitur/sequiturref08.Depth -/
def F42 : AF :=
  { ntmps := 5, results := [.tmp 2], pure := true, body :=
    .seq
      (.ops [⟨some 1, .box 25 (.t 0), none⟩, 
          ⟨some 2, .move (.c (.int .i64 0)), none⟩] false)
      (.seq
        (.ops [⟨some 3, .load true 5 (.t 1), none⟩, 
            ⟨some 4, .call 58 [.t 3, .c (.int .i64 65)], none⟩, 
            ⟨some 2, .move (.t 4), none⟩] false)
        (.ret)) }

/- sequitur/sequiturref08.Size -/
def F43 : AF :=
  { ntmps := 9, results := [.tmp 2], pure := true, body :=
    .seq
      (.ops [⟨some 1, .box 25 (.t 0), none⟩, 
          ⟨some 2, .move (.c (.int .i64 0)), none⟩] false)
      (.seq
        (.ops [⟨some 4, .load true 5 (.t 1), none⟩, 
            ⟨some 5, .call 59 [.t 4, .c (.int .i64 4096)], none⟩, 
            ⟨some 3, .move (.t 5), none⟩] false)
        (.seq
          (.seq
            (.ops [⟨some 6, .move (.t 3), none⟩, 
                ⟨some 7, .bin .gtr (.t 6) (.c (.int .i64 4097)), none⟩] false)
            (.cond (.t 7)
              (.seq
                (.ops [⟨some 2, .move (.c (.int .i64 4097)), none⟩] false)
                (.ret))
              (.skip)))
          (.seq
            (.ops [⟨some 8, .move (.t 3), none⟩, 
                ⟨some 2, .move (.t 8), none⟩] false)
            (.ret)))) }

/- sequitur/sequiturref08.parts -/
def L44_0 : AC :=
  .seq
    (.seq
      (.ops [⟨some 75, .move (.t 6), none⟩, 
          ⟨some 76, .fieldA 3 (.t 1), none⟩, 
          ⟨some 77, .load false 1 (.t 76), none⟩, 
          ⟨some 78, .len (.t 77), none⟩, 
          ⟨some 79, .bin .lss (.t 75) (.t 78), none⟩] false)
      (.cond (.t 79)
        (.skip)
        (.exit 0)))
    (.seq
      (.block 1
        (.seq
          (.ops [⟨some 82, .fieldA 3 (.t 1), none⟩, 
              ⟨some 83, .load false 1 (.t 82), none⟩, 
              ⟨some 84, .move (.t 6), none⟩, 
              ⟨some 85, .idxA 4 (.t 83) (.t 84), none⟩, 
              ⟨some 86, .load true 4 (.t 85), none⟩, 
              ⟨some 87, .call 61 [.t 86], none⟩, 
              ⟨some 7, .move (.t 87), none⟩] false)
          (.seq
            (.ops [⟨some 88, .move (.t 7), none⟩, 
                ⟨some 89, .bin .neq (.t 88) (.c (.int .i64 0)), none⟩] false)
            (.cond (.t 89)
              (.seq
                (.ops [⟨some 90, .move (.t 7), none⟩, 
                    ⟨some 2, .move (.t 90), none⟩] false)
                (.ret))
              (.skip)))))
      (.ops [⟨some 80, .move (.t 6), none⟩, 
          ⟨some 81, .bin .add (.t 80) (.c (.int .i64 1)), none⟩, 
          ⟨some 6, .move (.t 81), none⟩] false))

def L44_1 : AC :=
  .seq
    (.seq
      (.ops [⟨some 91, .move (.t 8), none⟩, 
          ⟨some 92, .fieldA 4 (.t 1), none⟩, 
          ⟨some 93, .load false 1 (.t 92), none⟩, 
          ⟨some 94, .len (.t 93), none⟩, 
          ⟨some 95, .bin .lss (.t 91) (.t 94), none⟩] false)
      (.cond (.t 95)
        (.skip)
        (.exit 2)))
    (.seq
      (.block 3
        (.seq
          (.ops [⟨some 98, .fieldA 4 (.t 1), none⟩, 
              ⟨some 99, .load false 1 (.t 98), none⟩, 
              ⟨some 100, .move (.t 8), none⟩, 
              ⟨some 101, .idxA 5 (.t 99) (.t 100), none⟩, 
              ⟨some 102, .load true 5 (.t 101), none⟩, 
              ⟨some 103, .call 44 [.t 102], none⟩, 
              ⟨some 9, .move (.t 103), none⟩] false)
          (.seq
            (.ops [⟨some 104, .move (.t 9), none⟩, 
                ⟨some 105, .bin .neq (.t 104) (.c (.int .i64 0)), none⟩] false)
            (.cond (.t 105)
              (.seq
                (.ops [⟨some 106, .move (.t 9), none⟩, 
                    ⟨some 2, .move (.t 106), none⟩] false)
                (.ret))
              (.skip)))))
      (.ops [⟨some 96, .move (.t 8), none⟩, 
          ⟨some 97, .bin .add (.t 96) (.c (.int .i64 1)), none⟩, 
          ⟨some 8, .move (.t 97), none⟩] false))
def F44 : AF :=
  { ntmps := 107, results := [.tmp 2], pure := true, body :=
    .seq
      (.ops [⟨some 1, .box 25 (.t 0), none⟩, 
          ⟨some 2, .move (.c (.int .i64 0)), none⟩] false)
      (.seq
        (.ops [⟨some 10, .fieldA 0 (.t 1), none⟩, 
            ⟨some 11, .load false 1 (.t 10), none⟩, 
            ⟨some 12, .bin .eql (.t 11) (.c (.int .i64 11)), none⟩, 
            ⟨some 13, .move (.t 12), none⟩, 
            ⟨some 14, .fieldA 0 (.t 1), some (13, false)⟩, 
            ⟨some 15, .load false 1 (.t 14), some (13, false)⟩, 
            ⟨some 16, .bin .eql (.t 15) (.c (.int .i64 12)), some (13, false)⟩, 
            ⟨some 17, .pick (.t 13) (.c (.bool true)) (.t 16), none⟩, 
            ⟨some 3, .move (.t 17), none⟩] false)
        (.seq
          (.seq
            (.ops [⟨some 18, .fieldA 0 (.t 1), none⟩, 
                ⟨some 19, .load false 1 (.t 18), none⟩, 
                ⟨some 20, .bin .lss (.t 19) (.c (.int .i64 1)), none⟩, 
                ⟨some 21, .move (.t 20), none⟩, 
                ⟨some 22, .fieldA 0 (.t 1), some (21, false)⟩, 
                ⟨some 23, .load false 1 (.t 22), some (21, false)⟩, 
                ⟨some 24, .bin .gtr (.t 23) (.c (.int .i64 12)), some (21, false)⟩, 
                ⟨some 25, .pick (.t 21) (.c (.bool true)) (.t 24), none⟩, 
                ⟨some 26, .move (.t 25), none⟩, 
                ⟨some 27, .move (.t 3), some (26, false)⟩, 
                ⟨some 28, .not (.t 27), some (26, false)⟩, 
                ⟨some 29, .move (.t 28), some (26, false)⟩, 
                ⟨some 30, .fieldA 0 (.t 1), some (29, true)⟩, 
                ⟨some 31, .load false 1 (.t 30), some (29, true)⟩, 
                ⟨some 32, .bin .neq (.t 31) (.c (.int .i64 3)), some (29, true)⟩, 
                ⟨some 33, .pick (.t 29) (.t 32) (.c (.bool false)), some (26, false)⟩, 
                ⟨some 34, .move (.t 33), some (26, false)⟩, 
                ⟨some 35, .fieldA 1 (.t 1), some (34, true)⟩, 
                ⟨some 36, .load false 1 (.t 35), some (34, true)⟩, 
                ⟨some 37, .bin .neq (.t 36) (.c (.str ⟨#[]⟩)), some (34, true)⟩, 
                ⟨some 38, .pick (.t 34) (.t 37) (.c (.bool false)), some (26, false)⟩, 
                ⟨some 39, .pick (.t 26) (.c (.bool true)) (.t 38), none⟩, 
                ⟨some 40, .move (.t 39), none⟩, 
                ⟨some 41, .move (.t 3), some (40, false)⟩, 
                ⟨some 42, .not (.t 41), some (40, false)⟩, 
                ⟨some 43, .move (.t 42), some (40, false)⟩, 
                ⟨some 44, .fieldA 2 (.t 1), some (43, true)⟩, 
                ⟨some 45, .load false 1 (.t 44), some (43, true)⟩, 
                ⟨some 46, .bin .neq (.t 45) (.c (.str ⟨#[]⟩)), some (43, true)⟩, 
                ⟨some 47, .pick (.t 43) (.t 46) (.c (.bool false)), some (40, false)⟩, 
                ⟨some 48, .pick (.t 40) (.c (.bool true)) (.t 47), none⟩] false)
            (.cond (.t 48)
              (.seq
                (.ops [⟨some 2, .move (.c (.int .i64 7)), none⟩] false)
                (.ret))
              (.skip)))
          (.seq
            (.ops [⟨some 50, .fieldA 0 (.t 1), none⟩, 
                ⟨some 51, .load false 1 (.t 50), none⟩, 
                ⟨some 52, .call 60 [.t 51], none⟩, 
                ⟨some 49, .move (.t 52), none⟩, 
                ⟨some 53, .extract (.t 49) 0, none⟩, 
                ⟨some 54, .extract (.t 49) 1, none⟩, 
                ⟨some 4, .move (.t 53), none⟩, 
                ⟨some 5, .move (.t 54), none⟩] false)
            (.seq
              (.seq
                (.ops [⟨some 55, .fieldA 0 (.t 1), none⟩, 
                    ⟨some 56, .load false 1 (.t 55), none⟩, 
                    ⟨some 57, .bin .eql (.t 56) (.c (.int .i64 3)), none⟩] false)
                (.cond (.t 57)
                  (.seq
                    (.ops [⟨some 58, .fieldA 3 (.t 1), none⟩, 
                        ⟨some 59, .load false 1 (.t 58), none⟩, 
                        ⟨some 60, .len (.t 59), none⟩, 
                        ⟨some 4, .move (.t 60), none⟩] false)
                    (.seq
                      (.ops [⟨some 61, .move (.t 4), none⟩, 
                          ⟨some 62, .bin .gtr (.t 61) (.c (.int .i64 8)), none⟩] false)
                      (.cond (.t 62)
                        (.seq
                          (.ops [⟨some 2, .move (.c (.int .i64 12)), none⟩] false)
                          (.ret))
                        (.skip))))
                  (.skip)))
              (.seq
                (.seq
                  (.ops [⟨some 63, .fieldA 3 (.t 1), none⟩, 
                      ⟨some 64, .load false 1 (.t 63), none⟩, 
                      ⟨some 65, .len (.t 64), none⟩, 
                      ⟨some 66, .move (.t 4), none⟩, 
                      ⟨some 67, .bin .neq (.t 65) (.t 66), none⟩, 
                      ⟨some 68, .move (.t 67), none⟩, 
                      ⟨some 69, .fieldA 4 (.t 1), some (68, false)⟩, 
                      ⟨some 70, .load false 1 (.t 69), some (68, false)⟩, 
                      ⟨some 71, .len (.t 70), some (68, false)⟩, 
                      ⟨some 72, .move (.t 5), some (68, false)⟩, 
                      ⟨some 73, .bin .neq (.t 71) (.t 72), some (68, false)⟩, 
                      ⟨some 74, .pick (.t 68) (.c (.bool true)) (.t 73), none⟩] false)
                  (.cond (.t 74)
                    (.seq
                      (.ops [⟨some 2, .move (.c (.int .i64 12)), none⟩] false)
                      (.ret))
                    (.skip)))
                (.seq
                  (.seq
                    (.ops [⟨some 6, .move (.c (.int .i64 0)), none⟩] false)
                    (.block 0
                      (.loop L44_0)))
                  (.seq
                    (.seq
                      (.ops [⟨some 8, .move (.c (.int .i64 0)), none⟩] false)
                      (.block 2
                        (.loop L44_1)))
                    (.seq
                      (.ops [⟨some 2, .move (.c (.int .i64 0)), none⟩] false)
                      (.ret))))))))) }

/- sequitur/sequiturref09.SmallTerm -/
def L45_0 : AC :=
  .seq
    (.seq
      (.ops [⟨some 4, .move (.t 3), none⟩, 
          ⟨some 5, .fieldA 3 (.t 1), none⟩, 
          ⟨some 6, .load false 1 (.t 5), none⟩, 
          ⟨some 7, .len (.t 6), none⟩, 
          ⟨some 8, .bin .lss (.t 4) (.t 7), none⟩] false)
      (.cond (.t 8)
        (.skip)
        (.exit 0)))
    (.seq
      (.block 1
        (.seq
          (.ops [⟨some 11, .fieldA 3 (.t 1), none⟩, 
              ⟨some 12, .load false 1 (.t 11), none⟩, 
              ⟨some 13, .move (.t 3), none⟩, 
              ⟨some 14, .idxA 4 (.t 12) (.t 13), none⟩, 
              ⟨some 15, .load true 4 (.t 14), none⟩, 
              ⟨some 16, .call 45 [.t 15], none⟩, 
              ⟨some 17, .not (.t 16), none⟩] false)
          (.cond (.t 17)
            (.seq
              (.ops [⟨some 2, .move (.c (.bool false)), none⟩] false)
              (.ret))
            (.skip))))
      (.ops [⟨some 9, .move (.t 3), none⟩, 
          ⟨some 10, .bin .add (.t 9) (.c (.int .i64 1)), none⟩, 
          ⟨some 3, .move (.t 10), none⟩] false))
def F45 : AF :=
  { ntmps := 26, results := [.tmp 2], pure := true, body :=
    .seq
      (.ops [⟨some 1, .box 27 (.t 0), none⟩, 
          ⟨some 2, .move (.c (.bool false)), none⟩] false)
      (.seq
        (.seq
          (.ops [⟨some 3, .move (.c (.int .i64 0)), none⟩] false)
          (.block 0
            (.loop L45_0)))
        (.seq
          (.ops [⟨some 18, .fieldA 0 (.t 1), none⟩, 
              ⟨some 19, .load false 1 (.t 18), none⟩, 
              ⟨some 20, .bin .neq (.t 19) (.c (.int .i64 2)), none⟩, 
              ⟨some 21, .move (.t 20), none⟩, 
              ⟨some 22, .fieldA 2 (.t 1), some (21, false)⟩, 
              ⟨some 23, .load false 1 (.t 22), some (21, false)⟩, 
              ⟨some 24, .bin .lss (.t 23) (.c (.int .i64 4611686018427387904)), some (21, false)⟩, 
              ⟨some 25, .pick (.t 21) (.c (.bool true)) (.t 24), none⟩, 
              ⟨some 2, .move (.t 25), none⟩] false)
          (.ret))) }

/- sequitur/bind.Close$1 -/
def F46 : AF :=
  { ntmps := 32, results := [.cell 5 true 4, .tmp 6], pure := true, body :=
    .seq
      (.ops [⟨some 3, .box 27 (.t 0), none⟩, 
          ⟨some 5, .alloc 27 [.int .i64 0, .str ⟨#[]⟩, .int .i64 0, .fsl 4 []], none⟩, 
          ⟨some 6, .move (.c (.bool false)), none⟩] false)
      (.seq
        (.seq
          (.ops [⟨some 9, .fieldA 0 (.t 3), none⟩, 
              ⟨some 10, .load false 1 (.t 9), none⟩, 
              ⟨some 11, .bin .eql (.t 10) (.c (.int .i64 1)), none⟩, 
              ⟨some 12, .move (.t 11), none⟩, 
              ⟨some 13, .fieldA 1 (.t 3), some (12, true)⟩, 
              ⟨some 14, .load false 1 (.t 13), some (12, true)⟩, 
              ⟨some 15, .load false 1 (.t 2), some (12, true)⟩, 
              ⟨some 16, .bin .eql (.t 14) (.t 15), some (12, true)⟩, 
              ⟨some 17, .pick (.t 12) (.t 16) (.c (.bool false)), none⟩] false)
          (.cond (.t 17)
            (.seq
              (.ops [⟨some 18, .move (.t 1), none⟩, 
                  ⟨some 19, .build [.int .i64 0, .str ⟨#[]⟩, .int .i64 0, .fsl 4 []] [(0, 1, .c (.int .i64 2)), (2, 1, .t 18)], none⟩, 
                  ⟨none, .store 4 (.t 5) (.t 19), none⟩, 
                  ⟨some 6, .move (.c (.bool true)), none⟩] false)
              (.ret))
            (.skip)))
        (.seq
          (.seq
            (.ops [⟨some 21, .load true 4 (.t 3), none⟩, 
                ⟨some 22, .move (.t 1), none⟩, 
                ⟨some 23, .call 40 [.t 21, .t 22], none⟩, 
                ⟨some 20, .move (.t 23), none⟩, 
                ⟨some 24, .extract (.t 20) 0, none⟩, 
                ⟨some 25, .extract (.t 20) 1, none⟩, 
                ⟨some 7, .move (.t 24), none⟩, 
                ⟨some 8, .move (.t 25), none⟩] false)
            (.seq
              (.ops [⟨some 26, .move (.t 8), none⟩] false)
              (.cond (.t 26)
                (.ops [⟨some 27, .fieldA 2 (.t 3), none⟩, 
                    ⟨some 28, .load false 1 (.t 27), none⟩, 
                    ⟨some 29, .bin .add (.t 28) (.c (.int .i64 1)), none⟩, 
                    ⟨some 30, .fieldA 2 (.t 3), none⟩, 
                    ⟨none, .store 1 (.t 30) (.t 29), none⟩] false)
                (.skip))))
          (.seq
            (.ops [⟨some 31, .load true 4 (.t 3), none⟩, 
                ⟨none, .store 4 (.t 5) (.t 31), none⟩, 
                ⟨some 6, .move (.c (.bool false)), none⟩] false)
            (.ret)))) }

/- sequitur/sequiturref08.names -/
def L47_0 : AC :=
  .seq
    (.seq
      (.ops [⟨some 7, .move (.t 5), none⟩, 
          ⟨some 8, .fieldA 3 (.t 3), none⟩, 
          ⟨some 9, .load false 1 (.t 8), none⟩, 
          ⟨some 10, .len (.t 9), none⟩, 
          ⟨some 11, .bin .lss (.t 7) (.t 10), none⟩] false)
      (.cond (.t 11)
        (.skip)
        (.exit 0)))
    (.seq
      (.block 1
        (.ops [⟨some 14, .move (.t 0), none⟩, 
            ⟨some 15, .fieldA 3 (.t 3), none⟩, 
            ⟨some 16, .load false 1 (.t 15), none⟩, 
            ⟨some 17, .move (.t 5), none⟩, 
            ⟨some 18, .idxA 4 (.t 16) (.t 17), none⟩, 
            ⟨some 19, .load true 4 (.t 18), none⟩, 
            ⟨some 20, .call 62 [.t 14, .t 19], none⟩, 
            ⟨some 0, .move (.t 20), none⟩] false))
      (.ops [⟨some 12, .move (.t 5), none⟩, 
          ⟨some 13, .bin .add (.t 12) (.c (.int .i64 1)), none⟩, 
          ⟨some 5, .move (.t 13), none⟩] false))

def L47_1 : AC :=
  .seq
    (.seq
      (.ops [⟨some 21, .move (.t 6), none⟩, 
          ⟨some 22, .fieldA 4 (.t 3), none⟩, 
          ⟨some 23, .load false 1 (.t 22), none⟩, 
          ⟨some 24, .len (.t 23), none⟩, 
          ⟨some 25, .bin .lss (.t 21) (.t 24), none⟩] false)
      (.cond (.t 25)
        (.skip)
        (.exit 2)))
    (.seq
      (.block 3
        (.ops [⟨some 28, .move (.t 0), none⟩, 
            ⟨some 29, .fieldA 4 (.t 3), none⟩, 
            ⟨some 30, .load false 1 (.t 29), none⟩, 
            ⟨some 31, .move (.t 6), none⟩, 
            ⟨some 32, .idxA 5 (.t 30) (.t 31), none⟩, 
            ⟨some 33, .load true 5 (.t 32), none⟩, 
            ⟨some 34, .call 47 [.t 28, .t 33], none⟩, 
            ⟨some 0, .move (.t 34), none⟩] false))
      (.ops [⟨some 26, .move (.t 6), none⟩, 
          ⟨some 27, .bin .add (.t 26) (.c (.int .i64 1)), none⟩, 
          ⟨some 6, .move (.t 27), none⟩] false))
def F47 : AF :=
  { ntmps := 36, results := [.tmp 4], pure := true, body :=
    .seq
      (.ops [⟨some 3, .box 25 (.t 1), none⟩, 
          ⟨some 4, .move (.c (.fsl 1 [])), none⟩] false)
      (.seq
        (.seq
          (.ops [⟨some 5, .move (.c (.int .i64 0)), none⟩] false)
          (.block 0
            (.loop L47_0)))
        (.seq
          (.seq
            (.ops [⟨some 6, .move (.c (.int .i64 0)), none⟩] false)
            (.block 2
              (.loop L47_1)))
          (.seq
            (.ops [⟨some 35, .move (.t 0), none⟩, 
                ⟨some 4, .move (.t 35), none⟩] false)
            (.ret)))) }

/- sequitur/sequiturref09.looseIn -/
def L48_0 : AC :=
  .seq
    (.seq
      (.ops [⟨some 23, .move (.t 7), none⟩, 
          ⟨some 24, .fieldA 3 (.t 4), none⟩, 
          ⟨some 25, .load false 1 (.t 24), none⟩, 
          ⟨some 26, .len (.t 25), none⟩, 
          ⟨some 27, .bin .lss (.t 23) (.t 26), none⟩] false)
      (.cond (.t 27)
        (.skip)
        (.exit 0)))
    (.seq
      (.block 1
        (.ops [⟨some 30, .move (.t 0), none⟩, 
            ⟨some 31, .fieldA 3 (.t 4), none⟩, 
            ⟨some 32, .load false 1 (.t 31), none⟩, 
            ⟨some 33, .move (.t 7), none⟩, 
            ⟨some 34, .idxA 4 (.t 32) (.t 33), none⟩, 
            ⟨some 35, .load true 4 (.t 34), none⟩, 
            ⟨some 36, .move (.t 2), none⟩, 
            ⟨some 37, .call 48 [.t 30, .t 35, .t 36], none⟩, 
            ⟨some 0, .move (.t 37), none⟩] false))
      (.ops [⟨some 28, .move (.t 7), none⟩, 
          ⟨some 29, .bin .add (.t 28) (.c (.int .i64 1)), none⟩, 
          ⟨some 7, .move (.t 29), none⟩] false))
def F48 : AF :=
  { ntmps := 39, results := [.tmp 6], pure := true, body :=
    .seq
      (.ops [⟨some 4, .box 27 (.t 1), none⟩, 
          ⟨some 6, .move (.c (.fsl 1 [])), none⟩] false)
      (.seq
        (.seq
          (.ops [⟨some 8, .fieldA 0 (.t 4), none⟩, 
              ⟨some 9, .load false 1 (.t 8), none⟩, 
              ⟨some 10, .bin .eql (.t 9) (.c (.int .i64 2)), none⟩, 
              ⟨some 11, .move (.t 10), none⟩, 
              ⟨some 12, .fieldA 2 (.t 4), some (11, true)⟩, 
              ⟨some 13, .load false 1 (.t 12), some (11, true)⟩, 
              ⟨some 14, .move (.t 2), some (11, true)⟩, 
              ⟨some 15, .bin .geq (.t 13) (.t 14), some (11, true)⟩, 
              ⟨some 16, .pick (.t 11) (.t 15) (.c (.bool false)), none⟩] false)
          (.cond (.t 16)
            (.ops [⟨some 17, .move (.t 0), none⟩, 
                ⟨some 18, .fieldA 2 (.t 4), none⟩, 
                ⟨some 19, .load false 1 (.t 18), none⟩, 
                ⟨some 20, .move (.t 2), none⟩, 
                ⟨some 21, .bin .sub (.t 19) (.t 20), none⟩, 
                ⟨some 22, .call 63 [.t 17, .t 21], none⟩, 
                ⟨some 0, .move (.t 22), none⟩] false)
            (.skip)))
        (.seq
          (.seq
            (.ops [⟨some 7, .move (.c (.int .i64 0)), none⟩] false)
            (.block 0
              (.loop L48_0)))
          (.seq
            (.ops [⟨some 38, .move (.t 0), none⟩, 
                ⟨some 6, .move (.t 38), none⟩] false)
            (.ret)))) }

/- sequitur/sequiturref09.loose -/
def L49_0 : AC :=
  .seq
    (.seq
      (.ops [⟨some 9, .move (.t 7), none⟩, 
          ⟨some 10, .fieldA 3 (.t 4), none⟩, 
          ⟨some 11, .load false 1 (.t 10), none⟩, 
          ⟨some 12, .len (.t 11), none⟩, 
          ⟨some 13, .bin .lss (.t 9) (.t 12), none⟩] false)
      (.cond (.t 13)
        (.skip)
        (.exit 0)))
    (.seq
      (.block 1
        (.ops [⟨some 16, .move (.t 0), none⟩, 
            ⟨some 17, .fieldA 3 (.t 4), none⟩, 
            ⟨some 18, .load false 1 (.t 17), none⟩, 
            ⟨some 19, .move (.t 7), none⟩, 
            ⟨some 20, .idxA 4 (.t 18) (.t 19), none⟩, 
            ⟨some 21, .load true 4 (.t 20), none⟩, 
            ⟨some 22, .move (.t 2), none⟩, 
            ⟨some 23, .call 48 [.t 16, .t 21, .t 22], none⟩, 
            ⟨some 0, .move (.t 23), none⟩] false))
      (.ops [⟨some 14, .move (.t 7), none⟩, 
          ⟨some 15, .bin .add (.t 14) (.c (.int .i64 1)), none⟩, 
          ⟨some 7, .move (.t 15), none⟩] false))

def L49_1 : AC :=
  .seq
    (.seq
      (.ops [⟨some 24, .move (.t 8), none⟩, 
          ⟨some 25, .fieldA 4 (.t 4), none⟩, 
          ⟨some 26, .load false 1 (.t 25), none⟩, 
          ⟨some 27, .len (.t 26), none⟩, 
          ⟨some 28, .bin .lss (.t 24) (.t 27), none⟩] false)
      (.cond (.t 28)
        (.skip)
        (.exit 2)))
    (.seq
      (.block 3
        (.ops [⟨some 31, .move (.t 0), none⟩, 
            ⟨some 32, .fieldA 4 (.t 4), none⟩, 
            ⟨some 33, .load false 1 (.t 32), none⟩, 
            ⟨some 34, .move (.t 8), none⟩, 
            ⟨some 35, .idxA 5 (.t 33) (.t 34), none⟩, 
            ⟨some 36, .load true 5 (.t 35), none⟩, 
            ⟨some 37, .load true 5 (.t 4), none⟩, 
            ⟨some 38, .move (.t 2), none⟩, 
            ⟨some 39, .call 57 [.t 37, .t 38], none⟩, 
            ⟨some 40, .call 49 [.t 31, .t 36, .t 39], none⟩, 
            ⟨some 0, .move (.t 40), none⟩] true))
      (.ops [⟨some 29, .move (.t 8), none⟩, 
          ⟨some 30, .bin .add (.t 29) (.c (.int .i64 1)), none⟩, 
          ⟨some 8, .move (.t 30), none⟩] false))
def F49 : AF :=
  { ntmps := 42, results := [.tmp 6], pure := true, body :=
    .seq
      (.ops [⟨some 4, .box 25 (.t 1), none⟩, 
          ⟨some 6, .move (.c (.fsl 1 [])), none⟩] false)
      (.seq
        (.seq
          (.ops [⟨some 7, .move (.c (.int .i64 0)), none⟩] false)
          (.block 0
            (.loop L49_0)))
        (.seq
          (.seq
            (.ops [⟨some 8, .move (.c (.int .i64 0)), none⟩] false)
            (.block 2
              (.loop L49_1)))
          (.seq
            (.ops [⟨some 41, .move (.t 0), none⟩, 
                ⟨some 6, .move (.t 41), none⟩] false)
            (.ret)))) }

/- sequitur/bind.gather -/
def F50 : AF :=
  { ntmps := 4, results := [.tmp 2], pure := false, body :=
    .seq
      (.ops [⟨some 1, .box 70 (.t 0), none⟩, 
          ⟨some 2, .move (.c (.nilf)), none⟩] false)
      (.seq
        (.ops [⟨some 3, .mkfn (.func 64) [] [.t 1], none⟩, 
            ⟨some 2, .move (.t 3), none⟩] false)
        (.ret)) }

/- sequitur/bind.rising -/
def F51 : AF :=
  { ntmps := 7, results := [.tmp 2], pure := false, body :=
    .seq
      (.ops [⟨some 2, .move (.c (.fsl 1 [])), none⟩] false)
      (.seq
        (.ops [⟨some 3, .move (.t 0), none⟩, 
            ⟨some 4, .call 65 [.t 3], none⟩] false)
        (.seq
          (.ops [⟨some 5, .move (.t 0), none⟩, 
              ⟨some 6, .call 66 [.t 5], none⟩, 
              ⟨some 2, .move (.t 6), none⟩] false)
          (.ret))) }

/- sequitur/bind.lift -/
def F52 : AF :=
  { ntmps := 6, results := [.tmp 4], pure := true, body :=
    .seq
      (.ops [⟨some 2, .box 3 (.t 0), none⟩, 
          ⟨some 3, .box 3 (.t 1), none⟩, 
          ⟨some 4, .move (.c (.nilf)), none⟩] false)
      (.seq
        (.ops [⟨some 5, .mkfn (.func 67) [] [.t 3, .t 2], none⟩, 
            ⟨some 4, .move (.t 5), none⟩] false)
        (.ret)) }

/- sequitur/bind.term -/
def L53_0 : AC :=
  .seq
    (.ops [⟨some 25, .bin .lss (.t 24) (.t 23), none⟩] false)
    (.seq
      (.cond (.t 25)
        (.skip)
        (.exit 0))
      (.seq
        (.block 1
          (.seq
            (.ops [⟨some 26, .idxA 4 (.t 22) (.t 24), none⟩, 
                ⟨some 27, .load true 4 (.t 26), none⟩, 
                ⟨some 10, .alloc 27 [.int .i64 0, .str ⟨#[]⟩, .int .i64 0, .fsl 4 []], none⟩, 
                ⟨none, .store 4 (.t 10) (.t 27), none⟩] false)
            (.ops [⟨some 28, .fieldA 3 (.t 7), none⟩, 
                ⟨some 29, .load false 1 (.t 28), none⟩, 
                ⟨some 30, .load true 4 (.t 10), none⟩, 
                ⟨some 31, .move (.t 1), none⟩, 
                ⟨some 32, .move (.t 2), none⟩, 
                ⟨some 33, .call 53 [.t 30, .t 31, .t 32], none⟩, 
                ⟨some 34, .buildSl 4 [.int .i64 0, .str ⟨#[]⟩, .int .i64 0, .fsl 4 []] 1 [(0, .t 33)], none⟩, 
                ⟨some 35, .append 27 4 56 (.t 29) (.t 34), none⟩, 
                ⟨some 36, .fieldA 3 (.t 7), none⟩, 
                ⟨none, .store 1 (.t 36) (.t 35), none⟩] true)))
        (.ops [⟨some 37, .bin .add (.t 24) (.c (.int .i64 1)), none⟩, 
            ⟨some 24, .move (.t 37), none⟩] false)))
def F53 : AF :=
  { ntmps := 39, results := [.cell 6 true 4], pure := true, body :=
    .seq
      (.ops [⟨some 3, .box 27 (.t 0), none⟩, 
          ⟨some 6, .alloc 27 [.int .i64 0, .str ⟨#[]⟩, .int .i64 0, .fsl 4 []], none⟩] false)
      (.seq
        (.ops [⟨some 12, .move (.t 2), none⟩, 
            ⟨some 13, .load true 4 (.t 3), none⟩, 
            ⟨some 14, .move (.t 1), none⟩, 
            ⟨some 15, .callv (.t 12) [.t 13, .t 14], none⟩, 
            ⟨some 11, .move (.t 15), none⟩, 
            ⟨some 16, .extract (.t 11) 0, none⟩, 
            ⟨some 17, .extract (.t 11) 1, none⟩, 
            ⟨some 7, .alloc 27 [.int .i64 0, .str ⟨#[]⟩, .int .i64 0, .fsl 4 []], none⟩, 
            ⟨none, .store 4 (.t 7) (.t 16), none⟩, 
            ⟨some 8, .move (.t 17), none⟩] false)
        (.seq
          (.seq
            (.ops [⟨some 18, .move (.t 8), none⟩] false)
            (.cond (.t 18)
              (.seq
                (.ops [⟨some 19, .load true 4 (.t 7), none⟩, 
                    ⟨none, .store 4 (.t 6) (.t 19), none⟩] false)
                (.ret))
              (.skip)))
          (.seq
            (.ops [⟨some 20, .fieldA 3 (.t 7), none⟩, 
                ⟨none, .store 1 (.t 20) (.c (.fsl 4 [])), none⟩] false)
            (.seq
              (.seq
                (.ops [⟨some 21, .fieldA 3 (.t 3), none⟩, 
                    ⟨some 22, .load false 1 (.t 21), none⟩, 
                    ⟨some 23, .len (.t 22), none⟩, 
                    ⟨some 24, .move (.c (.int .i64 0)), none⟩] false)
                (.block 0
                  (.loop L53_0)))
              (.seq
                (.ops [⟨some 38, .load true 4 (.t 7), none⟩, 
                    ⟨none, .store 4 (.t 6) (.t 38), none⟩] false)
                (.ret)))))) }

/- sequitur/sequiturref09.Term -/
def L54_0 : AC :=
  .seq
    (.seq
      (.ops [⟨some 84, .move (.t 9), none⟩, 
          ⟨some 85, .fieldA 3 (.t 4), none⟩, 
          ⟨some 86, .load false 1 (.t 85), none⟩, 
          ⟨some 87, .len (.t 86), none⟩, 
          ⟨some 88, .bin .lss (.t 84) (.t 87), none⟩] false)
      (.cond (.t 88)
        (.skip)
        (.exit 0)))
    (.seq
      (.block 1
        (.ops [⟨some 91, .fieldA 3 (.t 7), none⟩, 
            ⟨some 92, .load false 1 (.t 91), none⟩, 
            ⟨some 93, .load true 8 (.t 3), none⟩, 
            ⟨some 94, .fieldA 3 (.t 4), none⟩, 
            ⟨some 95, .load false 1 (.t 94), none⟩, 
            ⟨some 96, .move (.t 9), none⟩, 
            ⟨some 97, .idxA 4 (.t 95) (.t 96), none⟩, 
            ⟨some 98, .load true 4 (.t 97), none⟩, 
            ⟨some 99, .move (.t 2), none⟩, 
            ⟨some 100, .call 54 [.t 93, .t 98, .t 99], none⟩, 
            ⟨some 101, .buildSl 4 [.int .i64 0, .str ⟨#[]⟩, .int .i64 0, .fsl 4 []] 1 [(0, .t 100)], none⟩, 
            ⟨some 102, .append 27 4 56 (.t 92) (.t 101), none⟩, 
            ⟨some 103, .fieldA 3 (.t 7), none⟩, 
            ⟨none, .store 1 (.t 103) (.t 102), none⟩] true))
      (.ops [⟨some 89, .move (.t 9), none⟩, 
          ⟨some 90, .bin .add (.t 89) (.c (.int .i64 1)), none⟩, 
          ⟨some 9, .move (.t 90), none⟩] false))
def F54 : AF :=
  { ntmps := 105, results := [.cell 6 true 4], pure := true, body :=
    .seq
      (.ops [⟨some 3, .box 62 (.t 0), none⟩, 
          ⟨some 4, .box 27 (.t 1), none⟩, 
          ⟨some 6, .alloc 27 [.int .i64 0, .str ⟨#[]⟩, .int .i64 0, .fsl 4 []], none⟩] false)
      (.seq
        (.seq
          (.ops [⟨some 10, .fieldA 0 (.t 3), none⟩, 
              ⟨some 11, .load false 1 (.t 10), none⟩, 
              ⟨some 12, .bin .eql (.t 11) (.c (.int .i64 3)), none⟩, 
              ⟨some 13, .move (.t 12), none⟩, 
              ⟨some 14, .fieldA 0 (.t 4), some (13, true)⟩, 
              ⟨some 15, .load false 1 (.t 14), some (13, true)⟩, 
              ⟨some 16, .bin .eql (.t 15) (.c (.int .i64 1)), some (13, true)⟩, 
              ⟨some 17, .pick (.t 13) (.t 16) (.c (.bool false)), none⟩, 
              ⟨some 18, .move (.t 17), none⟩, 
              ⟨some 19, .fieldA 1 (.t 4), some (18, true)⟩, 
              ⟨some 20, .load false 1 (.t 19), some (18, true)⟩, 
              ⟨some 21, .fieldA 7 (.t 3), some (18, true)⟩, 
              ⟨some 22, .load false 1 (.t 21), some (18, true)⟩, 
              ⟨some 23, .bin .eql (.t 20) (.t 22), some (18, true)⟩, 
              ⟨some 24, .pick (.t 18) (.t 23) (.c (.bool false)), none⟩] false)
          (.cond (.t 24)
            (.seq
              (.ops [⟨some 25, .move (.t 2), none⟩, 
                  ⟨some 26, .build [.int .i64 0, .str ⟨#[]⟩, .int .i64 0, .fsl 4 []] [(0, 1, .c (.int .i64 2)), (2, 1, .t 25)], none⟩, 
                  ⟨none, .store 4 (.t 6) (.t 26), none⟩] false)
              (.ret))
            (.skip)))
        (.seq
          (.ops [⟨some 27, .load true 4 (.t 4), none⟩, 
              ⟨some 7, .alloc 27 [.int .i64 0, .str ⟨#[]⟩, .int .i64 0, .fsl 4 []], none⟩, 
              ⟨none, .store 4 (.t 7) (.t 27), none⟩] false)
          (.seq
            (.ops [⟨some 28, .fieldA 3 (.t 7), none⟩, 
                ⟨none, .store 1 (.t 28) (.c (.fsl 4 [])), none⟩] false)
            (.seq
              (.seq
                (.ops [⟨some 29, .fieldA 0 (.t 4), none⟩, 
                    ⟨some 30, .load false 1 (.t 29), none⟩, 
                    ⟨some 31, .bin .eql (.t 30) (.c (.int .i64 2)), none⟩, 
                    ⟨some 32, .move (.t 31), none⟩, 
                    ⟨some 33, .fieldA 2 (.t 4), some (32, true)⟩, 
                    ⟨some 34, .load false 1 (.t 33), some (32, true)⟩, 
                    ⟨some 35, .move (.t 2), some (32, true)⟩, 
                    ⟨some 36, .bin .geq (.t 34) (.t 35), some (32, true)⟩, 
                    ⟨some 37, .pick (.t 32) (.t 36) (.c (.bool false)), none⟩] false)
                (.cond (.t 37)
                  (.seq
                    (.ops [⟨some 38, .fieldA 2 (.t 4), none⟩, 
                        ⟨some 39, .load false 1 (.t 38), none⟩, 
                        ⟨some 40, .move (.t 2), none⟩, 
                        ⟨some 41, .bin .sub (.t 39) (.t 40), none⟩, 
                        ⟨some 8, .move (.t 41), none⟩] false)
                    (.seq
                      (.seq
                        (.ops [⟨some 42, .fieldA 0 (.t 3), none⟩, 
                            ⟨some 43, .load false 1 (.t 42), none⟩, 
                            ⟨some 44, .bin .eql (.t 43) (.c (.int .i64 1)), none⟩, 
                            ⟨some 45, .move (.t 44), none⟩, 
                            ⟨some 46, .move (.t 8), some (45, true)⟩, 
                            ⟨some 47, .fieldA 2 (.t 3), some (45, true)⟩, 
                            ⟨some 48, .load false 1 (.t 47), some (45, true)⟩, 
                            ⟨some 49, .bin .geq (.t 46) (.t 48), some (45, true)⟩, 
                            ⟨some 50, .pick (.t 45) (.t 49) (.c (.bool false)), none⟩] false)
                        (.cond (.t 50)
                          (.ops [⟨some 51, .move (.t 2), none⟩, 
                              ⟨some 52, .move (.t 8), none⟩, 
                              ⟨some 53, .fieldA 1 (.t 3), none⟩, 
                              ⟨some 54, .load false 1 (.t 53), none⟩, 
                              ⟨some 55, .call 68 [.t 52, .t 54], none⟩, 
                              ⟨some 56, .bin .add (.t 51) (.t 55), none⟩, 
                              ⟨some 57, .fieldA 2 (.t 7), none⟩, 
                              ⟨none, .store 1 (.t 57) (.t 56), none⟩] false)
                          (.skip)))
                      (.seq
                        (.seq
                          (.ops [⟨some 58, .fieldA 0 (.t 3), none⟩, 
                              ⟨some 59, .load false 1 (.t 58), none⟩, 
                              ⟨some 60, .bin .eql (.t 59) (.c (.int .i64 2)), none⟩, 
                              ⟨some 61, .move (.t 60), none⟩, 
                              ⟨some 62, .move (.t 8), some (61, true)⟩, 
                              ⟨some 63, .bin .eql (.t 62) (.c (.int .i64 0)), some (61, true)⟩, 
                              ⟨some 64, .pick (.t 61) (.t 63) (.c (.bool false)), none⟩] false)
                          (.cond (.t 64)
                            (.seq
                              (.ops [⟨some 65, .move (.t 2), none⟩, 
                                  ⟨some 66, .build [.int .i64 0, .int .i64 0, .int .i64 0, .int .i64 0, .str ⟨#[]⟩, .int .i64 0, .fsl 4 [], .str ⟨#[]⟩] [(0, 1, .c (.int .i64 1)), (1, 1, .t 65)], none⟩, 
                                  ⟨some 67, .fieldA 3 (.t 3), none⟩, 
                                  ⟨some 68, .load true 4 (.t 67), none⟩, 
                                  ⟨some 69, .call 54 [.t 66, .t 68, .c (.int .i64 0)], none⟩, 
                                  ⟨none, .store 4 (.t 6) (.t 69), none⟩] false)
                              (.ret))
                            (.skip)))
                        (.seq
                          (.seq
                            (.ops [⟨some 70, .fieldA 0 (.t 3), none⟩, 
                                ⟨some 71, .load false 1 (.t 70), none⟩, 
                                ⟨some 72, .bin .eql (.t 71) (.c (.int .i64 2)), none⟩] false)
                            (.cond (.t 72)
                              (.ops [⟨some 73, .fieldA 2 (.t 4), none⟩, 
                                  ⟨some 74, .load false 1 (.t 73), none⟩, 
                                  ⟨some 75, .bin .sub (.t 74) (.c (.int .i64 1)), none⟩, 
                                  ⟨some 76, .fieldA 2 (.t 7), none⟩, 
                                  ⟨none, .store 1 (.t 76) (.t 75), none⟩] false)
                              (.skip)))
                          (.seq
                            (.ops [⟨some 77, .fieldA 0 (.t 3), none⟩, 
                                ⟨some 78, .load false 1 (.t 77), none⟩, 
                                ⟨some 79, .bin .eql (.t 78) (.c (.int .i64 3)), none⟩] false)
                            (.cond (.t 79)
                              (.ops [⟨some 80, .fieldA 2 (.t 4), none⟩, 
                                  ⟨some 81, .load false 1 (.t 80), none⟩, 
                                  ⟨some 82, .bin .add (.t 81) (.c (.int .i64 1)), none⟩, 
                                  ⟨some 83, .fieldA 2 (.t 7), none⟩, 
                                  ⟨none, .store 1 (.t 83) (.t 82), none⟩] false)
                              (.skip)))))))
                  (.skip)))
              (.seq
                (.seq
                  (.ops [⟨some 9, .move (.c (.int .i64 0)), none⟩] false)
                  (.block 0
                    (.loop L54_0)))
                (.seq
                  (.ops [⟨some 104, .load true 4 (.t 7), none⟩, 
                      ⟨none, .store 4 (.t 6) (.t 104), none⟩] false)
                  (.ret))))))) }

/- sequitur/bind.binder -/
def F55 : AF :=
  { ntmps := 17, results := [.cell 8 true 5], pure := true, body :=
    .seq
      (.ops [⟨some 7, .box 25 (.t 3), none⟩, 
          ⟨some 8, .alloc 25 [.int .i64 0, .str ⟨#[]⟩, .str ⟨#[]⟩, .fsl 4 [], .fsl 5 []], none⟩] false)
      (.seq
        (.ops [⟨some 9, .move (.t 0), none⟩, 
            ⟨some 10, .move (.t 1), none⟩, 
            ⟨some 11, .move (.t 2), none⟩, 
            ⟨some 12, .load true 5 (.t 7), none⟩, 
            ⟨some 13, .move (.t 1), none⟩, 
            ⟨some 14, .call 17 [.t 12, .t 13], none⟩, 
            ⟨some 15, .buildSl 5 [.int .i64 0, .str ⟨#[]⟩, .str ⟨#[]⟩, .fsl 4 [], .fsl 5 []] 1 [(0, .t 14)], none⟩, 
            ⟨some 16, .build [.int .i64 0, .str ⟨#[]⟩, .str ⟨#[]⟩, .fsl 4 [], .fsl 5 []] [(0, 1, .t 9), (1, 1, .t 10), (2, 1, .t 11), (4, 1, .t 15)], none⟩, 
            ⟨none, .store 5 (.t 8) (.t 16), none⟩] false)
        (.ret)) }

/- sequitur/sequiturbase.Claims -/
def L56_0 : AC :=
  .seq
    (.seq
      (.ops [⟨some 11, .move (.t 5), none⟩, 
          ⟨some 12, .move (.t 0), none⟩, 
          ⟨some 13, .len (.t 12), none⟩, 
          ⟨some 14, .bin .lss (.t 11) (.t 13), none⟩] false)
      (.cond (.t 14)
        (.skip)
        (.exit 0)))
    (.seq
      (.block 1
        (.seq
          (.ops [⟨some 17, .move (.t 0), none⟩, 
              ⟨some 18, .move (.t 5), none⟩, 
              ⟨some 19, .idxA 5 (.t 17) (.t 18), none⟩, 
              ⟨some 20, .load true 5 (.t 19), none⟩, 
              ⟨some 21, .move (.t 1), none⟩, 
              ⟨some 22, .move (.t 5), none⟩, 
              ⟨some 23, .idxA 5 (.t 21) (.t 22), none⟩, 
              ⟨some 24, .load true 5 (.t 23), none⟩, 
              ⟨some 25, .call 34 [.t 20, .t 24], none⟩, 
              ⟨some 26, .not (.t 25), none⟩] true)
          (.cond (.t 26)
            (.seq
              (.ops [⟨some 4, .move (.c (.bool false)), none⟩] false)
              (.ret))
            (.skip))))
      (.ops [⟨some 15, .move (.t 5), none⟩, 
          ⟨some 16, .bin .add (.t 15) (.c (.int .i64 1)), none⟩, 
          ⟨some 5, .move (.t 16), none⟩] false))
def F56 : AF :=
  { ntmps := 27, results := [.tmp 4], pure := true, body :=
    .seq
      (.ops [⟨some 4, .move (.c (.bool false)), none⟩] false)
      (.seq
        (.seq
          (.ops [⟨some 6, .move (.t 0), none⟩, 
              ⟨some 7, .len (.t 6), none⟩, 
              ⟨some 8, .move (.t 1), none⟩, 
              ⟨some 9, .len (.t 8), none⟩, 
              ⟨some 10, .bin .neq (.t 7) (.t 9), none⟩] false)
          (.cond (.t 10)
            (.seq
              (.ops [⟨some 4, .move (.c (.bool false)), none⟩] false)
              (.ret))
            (.skip)))
        (.seq
          (.seq
            (.ops [⟨some 5, .move (.c (.int .i64 0)), none⟩] false)
            (.block 0
              (.loop L56_0)))
          (.seq
            (.ops [⟨some 4, .move (.c (.bool true)), none⟩] false)
            (.ret)))) }

/- sequitur/sequiturref09.within -/
def F57 : AF :=
  { ntmps := 10, results := [.tmp 4], pure := true, body :=
    .seq
      (.ops [⟨some 2, .box 25 (.t 0), none⟩, 
          ⟨some 4, .move (.c (.int .i64 0)), none⟩] false)
      (.seq
        (.seq
          (.ops [⟨some 5, .load true 5 (.t 2), none⟩, 
              ⟨some 6, .call 69 [.t 5], none⟩] false)
          (.cond (.t 6)
            (.seq
              (.ops [⟨some 7, .move (.t 1), none⟩, 
                  ⟨some 8, .bin .add (.t 7) (.c (.int .i64 1)), none⟩, 
                  ⟨some 4, .move (.t 8), none⟩] false)
              (.ret))
            (.skip)))
        (.seq
          (.ops [⟨some 9, .move (.t 1), none⟩, 
              ⟨some 4, .move (.t 9), none⟩] false)
          (.ret))) }

/- sequitur/sequiturref08.deep -/
def L58_0 : AC :=
  .seq
    (.seq
      (.ops [⟨some 10, .move (.t 6), none⟩, 
          ⟨some 11, .fieldA 4 (.t 2), none⟩, 
          ⟨some 12, .load false 1 (.t 11), none⟩, 
          ⟨some 13, .len (.t 12), none⟩, 
          ⟨some 14, .bin .lss (.t 10) (.t 13), none⟩] false)
      (.cond (.t 14)
        (.skip)
        (.exit 0)))
    (.seq
      (.block 1
        (.seq
          (.ops [⟨some 17, .fieldA 4 (.t 2), none⟩, 
              ⟨some 18, .load false 1 (.t 17), none⟩, 
              ⟨some 19, .move (.t 6), none⟩, 
              ⟨some 20, .idxA 5 (.t 18) (.t 19), none⟩, 
              ⟨some 21, .load true 5 (.t 20), none⟩, 
              ⟨some 22, .move (.t 1), none⟩, 
              ⟨some 23, .bin .sub (.t 22) (.c (.int .i64 1)), none⟩, 
              ⟨some 24, .call 58 [.t 21, .t 23], none⟩, 
              ⟨some 7, .move (.t 24), none⟩] false)
          (.seq
            (.ops [⟨some 25, .move (.t 7), none⟩, 
                ⟨some 26, .move (.t 5), none⟩, 
                ⟨some 27, .bin .gtr (.t 25) (.t 26), none⟩] false)
            (.cond (.t 27)
              (.ops [⟨some 28, .move (.t 7), none⟩, 
                  ⟨some 5, .move (.t 28), none⟩] false)
              (.skip)))))
      (.ops [⟨some 15, .move (.t 6), none⟩, 
          ⟨some 16, .bin .add (.t 15) (.c (.int .i64 1)), none⟩, 
          ⟨some 6, .move (.t 16), none⟩] false))
def F58 : AF :=
  { ntmps := 31, results := [.tmp 4], pure := true, body :=
    .seq
      (.ops [⟨some 2, .box 25 (.t 0), none⟩, 
          ⟨some 4, .move (.c (.int .i64 0)), none⟩] false)
      (.seq
        (.seq
          (.ops [⟨some 8, .move (.t 1), none⟩, 
              ⟨some 9, .bin .leq (.t 8) (.c (.int .i64 1)), none⟩] false)
          (.cond (.t 9)
            (.seq
              (.ops [⟨some 4, .move (.c (.int .i64 1)), none⟩] false)
              (.ret))
            (.skip)))
        (.seq
          (.ops [⟨some 5, .move (.c (.int .i64 0)), none⟩] false)
          (.seq
            (.seq
              (.ops [⟨some 6, .move (.c (.int .i64 0)), none⟩] false)
              (.block 0
                (.loop L58_0)))
            (.seq
              (.ops [⟨some 29, .move (.t 5), none⟩, 
                  ⟨some 30, .bin .add (.t 29) (.c (.int .i64 1)), none⟩, 
                  ⟨some 4, .move (.t 30), none⟩] false)
              (.ret))))) }

/- sequitur/sequiturref08.weigh -/
def L59_0 : AC :=
  .seq
    (.seq
      (.ops [⟨some 8, .move (.t 6), none⟩, 
          ⟨some 9, .fieldA 3 (.t 2), none⟩, 
          ⟨some 10, .load false 1 (.t 9), none⟩, 
          ⟨some 11, .len (.t 10), none⟩, 
          ⟨some 12, .bin .lss (.t 8) (.t 11), none⟩, 
          ⟨some 13, .move (.t 12), none⟩, 
          ⟨some 14, .move (.t 5), some (13, true)⟩, 
          ⟨some 15, .move (.t 1), some (13, true)⟩, 
          ⟨some 16, .bin .leq (.t 14) (.t 15), some (13, true)⟩, 
          ⟨some 17, .pick (.t 13) (.t 16) (.c (.bool false)), none⟩] false)
      (.cond (.t 17)
        (.skip)
        (.exit 0)))
    (.seq
      (.block 1
        (.ops [⟨some 20, .move (.t 5), none⟩, 
            ⟨some 21, .fieldA 3 (.t 2), none⟩, 
            ⟨some 22, .load false 1 (.t 21), none⟩, 
            ⟨some 23, .move (.t 6), none⟩, 
            ⟨some 24, .idxA 4 (.t 22) (.t 23), none⟩, 
            ⟨some 25, .load true 4 (.t 24), none⟩, 
            ⟨some 26, .move (.t 1), none⟩, 
            ⟨some 27, .move (.t 5), none⟩, 
            ⟨some 28, .bin .sub (.t 26) (.t 27), none⟩, 
            ⟨some 29, .call 70 [.t 25, .t 28], none⟩, 
            ⟨some 30, .bin .add (.t 20) (.t 29), none⟩, 
            ⟨some 5, .move (.t 30), none⟩] false))
      (.ops [⟨some 18, .move (.t 6), none⟩, 
          ⟨some 19, .bin .add (.t 18) (.c (.int .i64 1)), none⟩, 
          ⟨some 6, .move (.t 19), none⟩] false))

def L59_1 : AC :=
  .seq
    (.seq
      (.ops [⟨some 31, .move (.t 7), none⟩, 
          ⟨some 32, .fieldA 4 (.t 2), none⟩, 
          ⟨some 33, .load false 1 (.t 32), none⟩, 
          ⟨some 34, .len (.t 33), none⟩, 
          ⟨some 35, .bin .lss (.t 31) (.t 34), none⟩, 
          ⟨some 36, .move (.t 35), none⟩, 
          ⟨some 37, .move (.t 5), some (36, true)⟩, 
          ⟨some 38, .move (.t 1), some (36, true)⟩, 
          ⟨some 39, .bin .leq (.t 37) (.t 38), some (36, true)⟩, 
          ⟨some 40, .pick (.t 36) (.t 39) (.c (.bool false)), none⟩] false)
      (.cond (.t 40)
        (.skip)
        (.exit 2)))
    (.seq
      (.block 3
        (.ops [⟨some 43, .move (.t 5), none⟩, 
            ⟨some 44, .fieldA 4 (.t 2), none⟩, 
            ⟨some 45, .load false 1 (.t 44), none⟩, 
            ⟨some 46, .move (.t 7), none⟩, 
            ⟨some 47, .idxA 5 (.t 45) (.t 46), none⟩, 
            ⟨some 48, .load true 5 (.t 47), none⟩, 
            ⟨some 49, .move (.t 1), none⟩, 
            ⟨some 50, .move (.t 5), none⟩, 
            ⟨some 51, .bin .sub (.t 49) (.t 50), none⟩, 
            ⟨some 52, .call 59 [.t 48, .t 51], none⟩, 
            ⟨some 53, .bin .add (.t 43) (.t 52), none⟩, 
            ⟨some 5, .move (.t 53), none⟩] false))
      (.ops [⟨some 41, .move (.t 7), none⟩, 
          ⟨some 42, .bin .add (.t 41) (.c (.int .i64 1)), none⟩, 
          ⟨some 7, .move (.t 42), none⟩] false))
def F59 : AF :=
  { ntmps := 55, results := [.tmp 4], pure := true, body :=
    .seq
      (.ops [⟨some 2, .box 25 (.t 0), none⟩, 
          ⟨some 4, .move (.c (.int .i64 0)), none⟩] false)
      (.seq
        (.ops [⟨some 5, .move (.c (.int .i64 1)), none⟩] false)
        (.seq
          (.seq
            (.ops [⟨some 6, .move (.c (.int .i64 0)), none⟩] false)
            (.block 0
              (.loop L59_0)))
          (.seq
            (.seq
              (.ops [⟨some 7, .move (.c (.int .i64 0)), none⟩] false)
              (.block 2
                (.loop L59_1)))
            (.seq
              (.ops [⟨some 54, .move (.t 5), none⟩, 
                  ⟨some 4, .move (.t 54), none⟩] false)
              (.ret))))) }

/- sequitur/sequiturref08.wants -/
def F60 : AF :=
  { ntmps := 17, results := [.tmp 2, .tmp 3], pure := true, body :=
    .seq
      (.ops [⟨some 2, .move (.c (.int .i64 0)), none⟩, 
          ⟨some 3, .move (.c (.int .i64 0)), none⟩] false)
      (.seq
        (.seq
          (.ops [⟨some 4, .move (.t 0), none⟩] false)
          (.block 0
            (.seq
              (.seq
                (.ops [⟨some 6, .bin .eql (.t 4) (.c (.int .i64 4)), none⟩, 
                    ⟨some 5, .move (.t 6), none⟩] false)
                (.cond (.t 5)
                  (.skip)
                  (.ops [⟨some 7, .bin .eql (.t 4) (.c (.int .i64 5)), none⟩, 
                      ⟨some 5, .move (.t 7), none⟩] false)))
              (.cond (.t 5)
                (.seq
                  (.ops [⟨some 2, .move (.c (.int .i64 2)), none⟩, 
                      ⟨some 3, .move (.c (.int .i64 0)), none⟩] false)
                  (.ret))
                (.seq
                  (.seq
                    (.ops [⟨some 9, .bin .eql (.t 4) (.c (.int .i64 6)), none⟩, 
                        ⟨some 8, .move (.t 9), none⟩] false)
                    (.cond (.t 8)
                      (.skip)
                      (.seq
                        (.ops [⟨some 10, .bin .eql (.t 4) (.c (.int .i64 11)), none⟩, 
                            ⟨some 8, .move (.t 10), none⟩] false)
                        (.cond (.t 8)
                          (.skip)
                          (.ops [⟨some 11, .bin .eql (.t 4) (.c (.int .i64 12)), none⟩, 
                              ⟨some 8, .move (.t 11), none⟩] false)))))
                  (.cond (.t 8)
                    (.seq
                      (.ops [⟨some 2, .move (.c (.int .i64 0)), none⟩, 
                          ⟨some 3, .move (.c (.int .i64 1)), none⟩] false)
                      (.ret))
                    (.seq
                      (.seq
                        (.ops [⟨some 13, .bin .eql (.t 4) (.c (.int .i64 7)), none⟩, 
                            ⟨some 12, .move (.t 13), none⟩] false)
                        (.cond (.t 12)
                          (.skip)
                          (.seq
                            (.ops [⟨some 14, .bin .eql (.t 4) (.c (.int .i64 8)), none⟩, 
                                ⟨some 12, .move (.t 14), none⟩] false)
                            (.cond (.t 12)
                              (.skip)
                              (.seq
                                (.ops [⟨some 15, .bin .eql (.t 4) (.c (.int .i64 9)), none⟩, 
                                    ⟨some 12, .move (.t 15), none⟩] false)
                                (.cond (.t 12)
                                  (.skip)
                                  (.ops [⟨some 16, .bin .eql (.t 4) (.c (.int .i64 10)), none⟩, 
                                      ⟨some 12, .move (.t 16), none⟩] false)))))))
                      (.cond (.t 12)
                        (.seq
                          (.ops [⟨some 2, .move (.c (.int .i64 0)), none⟩, 
                              ⟨some 3, .move (.c (.int .i64 2)), none⟩] false)
                          (.ret))
                        (.skip)))))))))
        (.seq
          (.ops [⟨some 2, .move (.c (.int .i64 0)), none⟩, 
              ⟨some 3, .move (.c (.int .i64 0)), none⟩] false)
          (.ret))) }

/- sequitur/sequiturref08.TermRight -/
def F61 : AF :=
  { ntmps := 11, results := [.tmp 2], pure := true, body :=
    .seq
      (.ops [⟨some 1, .box 27 (.t 0), none⟩, 
          ⟨some 2, .move (.c (.int .i64 0)), none⟩] false)
      (.seq
        (.seq
          (.ops [⟨some 3, .load true 4 (.t 1), none⟩, 
              ⟨some 4, .call 71 [.t 3, .c (.int .i64 65)], none⟩, 
              ⟨some 5, .bin .gtr (.t 4) (.c (.int .i64 64)), none⟩] false)
          (.cond (.t 5)
            (.seq
              (.ops [⟨some 2, .move (.c (.int .i64 6)), none⟩] false)
              (.ret))
            (.skip)))
        (.seq
          (.seq
            (.ops [⟨some 6, .load true 4 (.t 1), none⟩, 
                ⟨some 7, .call 70 [.t 6, .c (.int .i64 4096)], none⟩, 
                ⟨some 8, .bin .gtr (.t 7) (.c (.int .i64 4096)), none⟩] false)
            (.cond (.t 8)
              (.seq
                (.ops [⟨some 2, .move (.c (.int .i64 2)), none⟩] false)
                (.ret))
              (.skip)))
          (.seq
            (.ops [⟨some 9, .load true 4 (.t 1), none⟩, 
                ⟨some 10, .call 72 [.t 9], none⟩, 
                ⟨some 2, .move (.t 10), none⟩] false)
            (.ret)))) }

/- sequitur/sequiturref08.termNames -/
def L62_0 : AC :=
  .seq
    (.seq
      (.ops [⟨some 13, .move (.t 5), none⟩, 
          ⟨some 14, .fieldA 3 (.t 3), none⟩, 
          ⟨some 15, .load false 1 (.t 14), none⟩, 
          ⟨some 16, .len (.t 15), none⟩, 
          ⟨some 17, .bin .lss (.t 13) (.t 16), none⟩] false)
      (.cond (.t 17)
        (.skip)
        (.exit 0)))
    (.seq
      (.block 1
        (.ops [⟨some 20, .move (.t 0), none⟩, 
            ⟨some 21, .fieldA 3 (.t 3), none⟩, 
            ⟨some 22, .load false 1 (.t 21), none⟩, 
            ⟨some 23, .move (.t 5), none⟩, 
            ⟨some 24, .idxA 4 (.t 22) (.t 23), none⟩, 
            ⟨some 25, .load true 4 (.t 24), none⟩, 
            ⟨some 26, .call 62 [.t 20, .t 25], none⟩, 
            ⟨some 0, .move (.t 26), none⟩] false))
      (.ops [⟨some 18, .move (.t 5), none⟩, 
          ⟨some 19, .bin .add (.t 18) (.c (.int .i64 1)), none⟩, 
          ⟨some 5, .move (.t 19), none⟩] false))
def F62 : AF :=
  { ntmps := 28, results := [.tmp 4], pure := true, body :=
    .seq
      (.ops [⟨some 3, .box 27 (.t 1), none⟩, 
          ⟨some 4, .move (.c (.fsl 1 [])), none⟩] false)
      (.seq
        (.seq
          (.ops [⟨some 6, .fieldA 0 (.t 3), none⟩, 
              ⟨some 7, .load false 1 (.t 6), none⟩, 
              ⟨some 8, .bin .eql (.t 7) (.c (.int .i64 1)), none⟩] false)
          (.cond (.t 8)
            (.ops [⟨some 9, .move (.t 0), none⟩, 
                ⟨some 10, .fieldA 1 (.t 3), none⟩, 
                ⟨some 11, .load false 1 (.t 10), none⟩, 
                ⟨some 12, .call 73 [.t 9, .t 11], none⟩, 
                ⟨some 0, .move (.t 12), none⟩] false)
            (.skip)))
        (.seq
          (.seq
            (.ops [⟨some 5, .move (.c (.int .i64 0)), none⟩] false)
            (.block 0
              (.loop L62_0)))
          (.seq
            (.ops [⟨some 27, .move (.t 0), none⟩, 
                ⟨some 4, .move (.t 27), none⟩] false)
            (.ret)))) }

/- sequitur/sequiturref09.put -/
def L63_0 : AC :=
  .seq
    (.seq
      (.ops [⟨some 8, .move (.t 7), none⟩, 
          ⟨some 9, .move (.t 0), none⟩, 
          ⟨some 10, .len (.t 9), none⟩, 
          ⟨some 11, .bin .lss (.t 8) (.t 10), none⟩] false)
      (.cond (.t 11)
        (.skip)
        (.exit 0)))
    (.seq
      (.block 1
        (.seq
          (.seq
            (.ops [⟨some 14, .move (.t 0), none⟩, 
                ⟨some 15, .move (.t 7), none⟩, 
                ⟨some 16, .idxA 1 (.t 14) (.t 15), none⟩, 
                ⟨some 17, .load false 1 (.t 16), none⟩, 
                ⟨some 18, .move (.t 1), none⟩, 
                ⟨some 19, .bin .eql (.t 17) (.t 18), none⟩] false)
            (.cond (.t 19)
              (.seq
                (.ops [⟨some 20, .move (.t 0), none⟩, 
                    ⟨some 4, .move (.t 20), none⟩] false)
                (.ret))
              (.skip)))
          (.seq
            (.seq
              (.ops [⟨some 21, .move (.t 6), none⟩, 
                  ⟨some 22, .not (.t 21), none⟩, 
                  ⟨some 23, .move (.t 22), none⟩, 
                  ⟨some 24, .move (.t 1), some (23, true)⟩, 
                  ⟨some 25, .move (.t 0), some (23, true)⟩, 
                  ⟨some 26, .move (.t 7), some (23, true)⟩, 
                  ⟨some 27, .idxA 1 (.t 25) (.t 26), some (23, true)⟩, 
                  ⟨some 28, .load false 1 (.t 27), some (23, true)⟩, 
                  ⟨some 29, .bin .lss (.t 24) (.t 28), some (23, true)⟩, 
                  ⟨some 30, .pick (.t 23) (.t 29) (.c (.bool false)), none⟩] false)
              (.cond (.t 30)
                (.seq
                  (.ops [⟨some 31, .move (.t 5), none⟩, 
                      ⟨some 32, .move (.t 1), none⟩, 
                      ⟨some 33, .buildSl 1 [.int .i64 0] 1 [(0, .t 32)], none⟩, 
                      ⟨some 34, .append 3 1 8 (.t 31) (.t 33), none⟩, 
                      ⟨some 5, .move (.t 34), none⟩] false)
                  (.ops [⟨some 6, .move (.c (.bool true)), none⟩] false))
                (.skip)))
            (.ops [⟨some 35, .move (.t 5), none⟩, 
                ⟨some 36, .move (.t 0), none⟩, 
                ⟨some 37, .move (.t 7), none⟩, 
                ⟨some 38, .idxA 1 (.t 36) (.t 37), none⟩, 
                ⟨some 39, .load false 1 (.t 38), none⟩, 
                ⟨some 40, .buildSl 1 [.int .i64 0] 1 [(0, .t 39)], none⟩, 
                ⟨some 41, .append 3 1 8 (.t 35) (.t 40), none⟩, 
                ⟨some 5, .move (.t 41), none⟩] false))))
      (.ops [⟨some 12, .move (.t 7), none⟩, 
          ⟨some 13, .bin .add (.t 12) (.c (.int .i64 1)), none⟩, 
          ⟨some 7, .move (.t 13), none⟩] false))
def F63 : AF :=
  { ntmps := 49, results := [.tmp 4], pure := true, body :=
    .seq
      (.ops [⟨some 4, .move (.c (.fsl 1 [])), none⟩] false)
      (.seq
        (.ops [⟨some 5, .move (.c (.fsl 1 [])), none⟩] false)
        (.seq
          (.ops [⟨some 6, .move (.c (.bool false)), none⟩] false)
          (.seq
            (.seq
              (.ops [⟨some 7, .move (.c (.int .i64 0)), none⟩] false)
              (.block 0
                (.loop L63_0)))
            (.seq
              (.seq
                (.ops [⟨some 42, .move (.t 6), none⟩, 
                    ⟨some 43, .not (.t 42), none⟩] false)
                (.cond (.t 43)
                  (.ops [⟨some 44, .move (.t 5), none⟩, 
                      ⟨some 45, .move (.t 1), none⟩, 
                      ⟨some 46, .buildSl 1 [.int .i64 0] 1 [(0, .t 45)], none⟩, 
                      ⟨some 47, .append 3 1 8 (.t 44) (.t 46), none⟩, 
                      ⟨some 5, .move (.t 47), none⟩] false)
                  (.skip)))
              (.seq
                (.ops [⟨some 48, .move (.t 5), none⟩, 
                    ⟨some 4, .move (.t 48), none⟩] false)
                (.ret)))))) }

/- sequitur/bind.gather$1 -/
def F64 : AF :=
  { ntmps := 25, results := [.cell 5 true 4, .tmp 6], pure := false, body :=
    .seq
      (.ops [⟨some 3, .box 27 (.t 0), none⟩, 
          ⟨some 5, .alloc 27 [.int .i64 0, .str ⟨#[]⟩, .int .i64 0, .fsl 4 []], none⟩, 
          ⟨some 6, .move (.c (.bool false)), none⟩] false)
      (.seq
        (.seq
          (.ops [⟨some 10, .load true 4 (.t 3), none⟩, 
              ⟨some 11, .move (.t 1), none⟩, 
              ⟨some 12, .call 40 [.t 10, .t 11], none⟩, 
              ⟨some 9, .move (.t 12), none⟩, 
              ⟨some 13, .extract (.t 9) 0, none⟩, 
              ⟨some 14, .extract (.t 9) 1, none⟩, 
              ⟨some 7, .move (.t 13), none⟩, 
              ⟨some 8, .move (.t 14), none⟩] false)
          (.seq
            (.ops [⟨some 15, .move (.t 8), none⟩] false)
            (.cond (.t 15)
              (.opsW [⟨some 16, .load false 1 (.t 2), none⟩, 
                  ⟨some 17, .load false 1 (.t 2), none⟩, 
                  ⟨some 18, .nilck (.t 17), none⟩, 
                  ⟨some 19, .load false 1 (.t 18), none⟩, 
                  ⟨some 20, .move (.t 7), none⟩, 
                  ⟨some 21, .buildSl 1 [.int .i64 0] 1 [(0, .t 20)], none⟩, 
                  ⟨some 22, .append 3 1 8 (.t 19) (.t 21), none⟩, 
                  ⟨some 23, .nilck (.t 16), none⟩, 
                  ⟨none, .store 1 (.t 23) (.t 22), none⟩])
              (.skip))))
        (.seq
          (.ops [⟨some 24, .load true 4 (.t 3), none⟩, 
              ⟨none, .store 4 (.t 5) (.t 24), none⟩, 
              ⟨some 6, .move (.c (.bool false)), none⟩] false)
          (.ret))) }

/- sequitur/bind.lift$1 -/
def F67 : AF :=
  { ntmps := 30, results := [.cell 6 true 4, .tmp 7], pure := true, body :=
    .seq
      (.ops [⟨some 4, .box 27 (.t 0), none⟩, 
          ⟨some 6, .alloc 27 [.int .i64 0, .str ⟨#[]⟩, .int .i64 0, .fsl 4 []], none⟩, 
          ⟨some 7, .move (.c (.bool false)), none⟩] false)
      (.seq
        (.seq
          (.ops [⟨some 11, .load true 4 (.t 4), none⟩, 
              ⟨some 12, .move (.t 1), none⟩, 
              ⟨some 13, .call 40 [.t 11, .t 12], none⟩, 
              ⟨some 10, .move (.t 13), none⟩, 
              ⟨some 14, .extract (.t 10) 0, none⟩, 
              ⟨some 15, .extract (.t 10) 1, none⟩, 
              ⟨some 8, .move (.t 14), none⟩, 
              ⟨some 9, .move (.t 15), none⟩] false)
          (.seq
            (.ops [⟨some 16, .move (.t 9), none⟩, 
                ⟨some 17, .move (.t 16), none⟩, 
                ⟨some 18, .move (.t 8), some (17, true)⟩, 
                ⟨some 19, .load false 1 (.t 2), some (17, true)⟩, 
                ⟨some 20, .bin .geq (.t 18) (.t 19), some (17, true)⟩, 
                ⟨some 21, .pick (.t 17) (.t 20) (.c (.bool false)), none⟩] false)
            (.cond (.t 21)
              (.ops [⟨some 22, .move (.t 8), none⟩, 
                  ⟨some 23, .load false 1 (.t 3), none⟩, 
                  ⟨some 24, .bin .add (.t 22) (.t 23), none⟩, 
                  ⟨some 25, .max2 (.t 24) (.c (.int .i64 0)), none⟩, 
                  ⟨some 26, .move (.t 1), none⟩, 
                  ⟨some 27, .bin .add (.t 25) (.t 26), none⟩, 
                  ⟨some 28, .fieldA 2 (.t 4), none⟩, 
                  ⟨none, .store 1 (.t 28) (.t 27), none⟩] false)
              (.skip))))
        (.seq
          (.ops [⟨some 29, .load true 4 (.t 4), none⟩, 
              ⟨none, .store 4 (.t 6) (.t 29), none⟩, 
              ⟨some 7, .move (.c (.bool false)), none⟩] false)
          (.ret))) }

/- sequitur/sequiturref09.lift -/
def F68 : AF :=
  { ntmps := 12, results := [.tmp 4], pure := true, body :=
    .seq
      (.ops [⟨some 4, .move (.c (.int .i64 0)), none⟩] false)
      (.seq
        (.ops [⟨some 6, .move (.t 0), none⟩, 
            ⟨some 7, .move (.t 1), none⟩, 
            ⟨some 8, .bin .add (.t 6) (.t 7), none⟩, 
            ⟨some 5, .move (.t 8), none⟩] false)
        (.seq
          (.seq
            (.ops [⟨some 9, .move (.t 5), none⟩, 
                ⟨some 10, .bin .lss (.t 9) (.c (.int .i64 0)), none⟩] false)
            (.cond (.t 10)
              (.seq
                (.ops [⟨some 4, .move (.c (.int .i64 0)), none⟩] false)
                (.ret))
              (.skip)))
          (.seq
            (.ops [⟨some 11, .move (.t 5), none⟩, 
                ⟨some 4, .move (.t 11), none⟩] false)
            (.ret)))) }

/- sequitur/sequiturref09.Binds -/
def F69 : AF :=
  { ntmps := 11, results := [.tmp 2], pure := true, body :=
    .seq
      (.ops [⟨some 1, .box 25 (.t 0), none⟩, 
          ⟨some 2, .move (.c (.bool false)), none⟩] false)
      (.seq
        (.ops [⟨some 3, .fieldA 0 (.t 1), none⟩, 
            ⟨some 4, .load false 1 (.t 3), none⟩, 
            ⟨some 5, .bin .eql (.t 4) (.c (.int .i64 11)), none⟩, 
            ⟨some 6, .move (.t 5), none⟩, 
            ⟨some 7, .fieldA 0 (.t 1), some (6, false)⟩, 
            ⟨some 8, .load false 1 (.t 7), some (6, false)⟩, 
            ⟨some 9, .bin .eql (.t 8) (.c (.int .i64 12)), some (6, false)⟩, 
            ⟨some 10, .pick (.t 6) (.c (.bool true)) (.t 9), none⟩, 
            ⟨some 2, .move (.t 10), none⟩] false)
        (.ret)) }

/- sequitur/sequiturref08.size -/
def L70_0 : AC :=
  .seq
    (.seq
      (.ops [⟨some 7, .move (.t 6), none⟩, 
          ⟨some 8, .fieldA 3 (.t 2), none⟩, 
          ⟨some 9, .load false 1 (.t 8), none⟩, 
          ⟨some 10, .len (.t 9), none⟩, 
          ⟨some 11, .bin .lss (.t 7) (.t 10), none⟩, 
          ⟨some 12, .move (.t 11), none⟩, 
          ⟨some 13, .move (.t 5), some (12, true)⟩, 
          ⟨some 14, .move (.t 1), some (12, true)⟩, 
          ⟨some 15, .bin .leq (.t 13) (.t 14), some (12, true)⟩, 
          ⟨some 16, .pick (.t 12) (.t 15) (.c (.bool false)), none⟩] false)
      (.cond (.t 16)
        (.skip)
        (.exit 0)))
    (.seq
      (.block 1
        (.ops [⟨some 19, .move (.t 5), none⟩, 
            ⟨some 20, .fieldA 3 (.t 2), none⟩, 
            ⟨some 21, .load false 1 (.t 20), none⟩, 
            ⟨some 22, .move (.t 6), none⟩, 
            ⟨some 23, .idxA 4 (.t 21) (.t 22), none⟩, 
            ⟨some 24, .load true 4 (.t 23), none⟩, 
            ⟨some 25, .move (.t 1), none⟩, 
            ⟨some 26, .move (.t 5), none⟩, 
            ⟨some 27, .bin .sub (.t 25) (.t 26), none⟩, 
            ⟨some 28, .call 70 [.t 24, .t 27], none⟩, 
            ⟨some 29, .bin .add (.t 19) (.t 28), none⟩, 
            ⟨some 5, .move (.t 29), none⟩] false))
      (.ops [⟨some 17, .move (.t 6), none⟩, 
          ⟨some 18, .bin .add (.t 17) (.c (.int .i64 1)), none⟩, 
          ⟨some 6, .move (.t 18), none⟩] false))
def F70 : AF :=
  { ntmps := 31, results := [.tmp 4], pure := true, body :=
    .seq
      (.ops [⟨some 2, .box 27 (.t 0), none⟩, 
          ⟨some 4, .move (.c (.int .i64 0)), none⟩] false)
      (.seq
        (.ops [⟨some 5, .move (.c (.int .i64 1)), none⟩] false)
        (.seq
          (.seq
            (.ops [⟨some 6, .move (.c (.int .i64 0)), none⟩] false)
            (.block 0
              (.loop L70_0)))
          (.seq
            (.ops [⟨some 30, .move (.t 5), none⟩, 
                ⟨some 4, .move (.t 30), none⟩] false)
            (.ret)))) }

/- sequitur/sequiturref08.tall -/
def L71_0 : AC :=
  .seq
    (.seq
      (.ops [⟨some 10, .move (.t 6), none⟩, 
          ⟨some 11, .fieldA 3 (.t 2), none⟩, 
          ⟨some 12, .load false 1 (.t 11), none⟩, 
          ⟨some 13, .len (.t 12), none⟩, 
          ⟨some 14, .bin .lss (.t 10) (.t 13), none⟩] false)
      (.cond (.t 14)
        (.skip)
        (.exit 0)))
    (.seq
      (.block 1
        (.seq
          (.ops [⟨some 17, .fieldA 3 (.t 2), none⟩, 
              ⟨some 18, .load false 1 (.t 17), none⟩, 
              ⟨some 19, .move (.t 6), none⟩, 
              ⟨some 20, .idxA 4 (.t 18) (.t 19), none⟩, 
              ⟨some 21, .load true 4 (.t 20), none⟩, 
              ⟨some 22, .move (.t 1), none⟩, 
              ⟨some 23, .bin .sub (.t 22) (.c (.int .i64 1)), none⟩, 
              ⟨some 24, .call 71 [.t 21, .t 23], none⟩, 
              ⟨some 7, .move (.t 24), none⟩] false)
          (.seq
            (.ops [⟨some 25, .move (.t 7), none⟩, 
                ⟨some 26, .move (.t 5), none⟩, 
                ⟨some 27, .bin .gtr (.t 25) (.t 26), none⟩] false)
            (.cond (.t 27)
              (.ops [⟨some 28, .move (.t 7), none⟩, 
                  ⟨some 5, .move (.t 28), none⟩] false)
              (.skip)))))
      (.ops [⟨some 15, .move (.t 6), none⟩, 
          ⟨some 16, .bin .add (.t 15) (.c (.int .i64 1)), none⟩, 
          ⟨some 6, .move (.t 16), none⟩] false))
def F71 : AF :=
  { ntmps := 31, results := [.tmp 4], pure := true, body :=
    .seq
      (.ops [⟨some 2, .box 27 (.t 0), none⟩, 
          ⟨some 4, .move (.c (.int .i64 0)), none⟩] false)
      (.seq
        (.seq
          (.ops [⟨some 8, .move (.t 1), none⟩, 
              ⟨some 9, .bin .leq (.t 8) (.c (.int .i64 1)), none⟩] false)
          (.cond (.t 9)
            (.seq
              (.ops [⟨some 4, .move (.c (.int .i64 1)), none⟩] false)
              (.ret))
            (.skip)))
        (.seq
          (.ops [⟨some 5, .move (.c (.int .i64 0)), none⟩] false)
          (.seq
            (.seq
              (.ops [⟨some 6, .move (.c (.int .i64 0)), none⟩] false)
              (.block 0
                (.loop L71_0)))
            (.seq
              (.ops [⟨some 29, .move (.t 5), none⟩, 
                  ⟨some 30, .bin .add (.t 29) (.c (.int .i64 1)), none⟩, 
                  ⟨some 4, .move (.t 30), none⟩] false)
              (.ret))))) }

/- sequitur/sequiturref08.termParts -/
def L72_0 : AC :=
  .seq
    (.seq
      (.ops [⟨some 94, .move (.t 6), none⟩, 
          ⟨some 95, .fieldA 3 (.t 1), none⟩, 
          ⟨some 96, .load false 1 (.t 95), none⟩, 
          ⟨some 97, .len (.t 96), none⟩, 
          ⟨some 98, .bin .lss (.t 94) (.t 97), none⟩] false)
      (.cond (.t 98)
        (.skip)
        (.exit 1)))
    (.seq
      (.block 2
        (.seq
          (.ops [⟨some 101, .fieldA 3 (.t 1), none⟩, 
              ⟨some 102, .load false 1 (.t 101), none⟩, 
              ⟨some 103, .move (.t 6), none⟩, 
              ⟨some 104, .idxA 4 (.t 102) (.t 103), none⟩, 
              ⟨some 105, .load true 4 (.t 104), none⟩, 
              ⟨some 106, .call 72 [.t 105], none⟩, 
              ⟨some 7, .move (.t 106), none⟩] false)
          (.seq
            (.ops [⟨some 107, .move (.t 7), none⟩, 
                ⟨some 108, .bin .neq (.t 107) (.c (.int .i64 0)), none⟩] false)
            (.cond (.t 108)
              (.seq
                (.ops [⟨some 109, .move (.t 7), none⟩, 
                    ⟨some 2, .move (.t 109), none⟩] false)
                (.ret))
              (.skip)))))
      (.ops [⟨some 99, .move (.t 6), none⟩, 
          ⟨some 100, .bin .add (.t 99) (.c (.int .i64 1)), none⟩, 
          ⟨some 6, .move (.t 100), none⟩] false))
def F72 : AF :=
  { ntmps := 110, results := [.tmp 2], pure := true, body :=
    .seq
      (.ops [⟨some 1, .box 27 (.t 0), none⟩, 
          ⟨some 2, .move (.c (.int .i64 0)), none⟩] false)
      (.seq
        (.ops [⟨some 8, .fieldA 0 (.t 1), none⟩, 
            ⟨some 9, .load false 1 (.t 8), none⟩, 
            ⟨some 10, .bin .eql (.t 9) (.c (.int .i64 1)), none⟩, 
            ⟨some 11, .move (.t 10), none⟩, 
            ⟨some 12, .fieldA 0 (.t 1), some (11, false)⟩, 
            ⟨some 13, .load false 1 (.t 12), some (11, false)⟩, 
            ⟨some 14, .bin .eql (.t 13) (.c (.int .i64 3)), some (11, false)⟩, 
            ⟨some 15, .pick (.t 11) (.c (.bool true)) (.t 14), none⟩, 
            ⟨some 3, .move (.t 15), none⟩] false)
        (.seq
          (.ops [⟨some 16, .fieldA 0 (.t 1), none⟩, 
              ⟨some 17, .load false 1 (.t 16), none⟩, 
              ⟨some 18, .bin .eql (.t 17) (.c (.int .i64 2)), none⟩, 
              ⟨some 19, .move (.t 18), none⟩, 
              ⟨some 20, .fieldA 0 (.t 1), some (19, false)⟩, 
              ⟨some 21, .load false 1 (.t 20), some (19, false)⟩, 
              ⟨some 22, .bin .eql (.t 21) (.c (.int .i64 4)), some (19, false)⟩, 
              ⟨some 23, .pick (.t 19) (.c (.bool true)) (.t 22), none⟩, 
              ⟨some 24, .move (.t 23), none⟩, 
              ⟨some 25, .fieldA 0 (.t 1), some (24, false)⟩, 
              ⟨some 26, .load false 1 (.t 25), some (24, false)⟩, 
              ⟨some 27, .bin .eql (.t 26) (.c (.int .i64 8)), some (24, false)⟩, 
              ⟨some 28, .pick (.t 24) (.c (.bool true)) (.t 27), none⟩, 
              ⟨some 4, .move (.t 28), none⟩] false)
          (.seq
            (.seq
              (.ops [⟨some 29, .fieldA 0 (.t 1), none⟩, 
                  ⟨some 30, .load false 1 (.t 29), none⟩, 
                  ⟨some 31, .bin .lss (.t 30) (.c (.int .i64 1)), none⟩, 
                  ⟨some 32, .move (.t 31), none⟩, 
                  ⟨some 33, .fieldA 0 (.t 1), some (32, false)⟩, 
                  ⟨some 34, .load false 1 (.t 33), some (32, false)⟩, 
                  ⟨some 35, .bin .gtr (.t 34) (.c (.int .i64 8)), some (32, false)⟩, 
                  ⟨some 36, .pick (.t 32) (.c (.bool true)) (.t 35), none⟩, 
                  ⟨some 37, .move (.t 36), none⟩, 
                  ⟨some 38, .move (.t 3), some (37, false)⟩, 
                  ⟨some 39, .not (.t 38), some (37, false)⟩, 
                  ⟨some 40, .move (.t 39), some (37, false)⟩, 
                  ⟨some 41, .fieldA 1 (.t 1), some (40, true)⟩, 
                  ⟨some 42, .load false 1 (.t 41), some (40, true)⟩, 
                  ⟨some 43, .bin .neq (.t 42) (.c (.str ⟨#[]⟩)), some (40, true)⟩, 
                  ⟨some 44, .pick (.t 40) (.t 43) (.c (.bool false)), some (37, false)⟩, 
                  ⟨some 45, .pick (.t 37) (.c (.bool true)) (.t 44), none⟩, 
                  ⟨some 46, .move (.t 45), none⟩, 
                  ⟨some 47, .move (.t 4), some (46, false)⟩, 
                  ⟨some 48, .not (.t 47), some (46, false)⟩, 
                  ⟨some 49, .move (.t 48), some (46, false)⟩, 
                  ⟨some 50, .fieldA 2 (.t 1), some (49, true)⟩, 
                  ⟨some 51, .load false 1 (.t 50), some (49, true)⟩, 
                  ⟨some 52, .bin .neq (.t 51) (.c (.int .i64 0)), some (49, true)⟩, 
                  ⟨some 53, .pick (.t 49) (.t 52) (.c (.bool false)), some (46, false)⟩, 
                  ⟨some 54, .pick (.t 46) (.c (.bool true)) (.t 53), none⟩, 
                  ⟨some 55, .move (.t 54), none⟩, 
                  ⟨some 56, .fieldA 0 (.t 1), some (55, false)⟩, 
                  ⟨some 57, .load false 1 (.t 56), some (55, false)⟩, 
                  ⟨some 58, .bin .eql (.t 57) (.c (.int .i64 2)), some (55, false)⟩, 
                  ⟨some 59, .move (.t 58), some (55, false)⟩, 
                  ⟨some 60, .fieldA 2 (.t 1), some (59, true)⟩, 
                  ⟨some 61, .load false 1 (.t 60), some (59, true)⟩, 
                  ⟨some 62, .bin .lss (.t 61) (.c (.int .i64 0)), some (59, true)⟩, 
                  ⟨some 63, .pick (.t 59) (.t 62) (.c (.bool false)), some (55, false)⟩, 
                  ⟨some 64, .pick (.t 55) (.c (.bool true)) (.t 63), none⟩] false)
              (.cond (.t 64)
                (.seq
                  (.ops [⟨some 2, .move (.c (.int .i64 7)), none⟩] false)
                  (.ret))
                (.skip)))
            (.seq
              (.ops [⟨some 5, .move (.c (.int .i64 0)), none⟩] false)
              (.seq
                (.seq
                  (.ops [⟨some 65, .fieldA 0 (.t 1), none⟩, 
                      ⟨some 66, .load false 1 (.t 65), none⟩] false)
                  (.block 0
                    (.seq
                      (.seq
                        (.ops [⟨some 68, .bin .eql (.t 66) (.c (.int .i64 5)), none⟩, 
                            ⟨some 67, .move (.t 68), none⟩] false)
                        (.cond (.t 67)
                          (.skip)
                          (.ops [⟨some 69, .bin .eql (.t 66) (.c (.int .i64 6)), none⟩, 
                              ⟨some 67, .move (.t 69), none⟩] false)))
                      (.cond (.t 67)
                        (.ops [⟨some 5, .move (.c (.int .i64 2)), none⟩] false)
                        (.seq
                          (.seq
                            (.ops [⟨some 71, .bin .eql (.t 66) (.c (.int .i64 7)), none⟩, 
                                ⟨some 70, .move (.t 71), none⟩] false)
                            (.cond (.t 70)
                              (.skip)
                              (.ops [⟨some 72, .bin .eql (.t 66) (.c (.int .i64 8)), none⟩, 
                                  ⟨some 70, .move (.t 72), none⟩] false)))
                          (.cond (.t 70)
                            (.ops [⟨some 5, .move (.c (.int .i64 1)), none⟩] false)
                            (.skip)))))))
                (.seq
                  (.seq
                    (.ops [⟨some 73, .fieldA 0 (.t 1), none⟩, 
                        ⟨some 74, .load false 1 (.t 73), none⟩, 
                        ⟨some 75, .bin .eql (.t 74) (.c (.int .i64 3)), none⟩, 
                        ⟨some 76, .move (.t 75), none⟩, 
                        ⟨some 77, .fieldA 3 (.t 1), some (76, true)⟩, 
                        ⟨some 78, .load false 1 (.t 77), some (76, true)⟩, 
                        ⟨some 79, .len (.t 78), some (76, true)⟩, 
                        ⟨some 80, .bin .gtr (.t 79) (.c (.int .i64 8)), some (76, true)⟩, 
                        ⟨some 81, .pick (.t 76) (.t 80) (.c (.bool false)), none⟩, 
                        ⟨some 82, .move (.t 81), none⟩, 
                        ⟨some 83, .fieldA 0 (.t 1), some (82, false)⟩, 
                        ⟨some 84, .load false 1 (.t 83), some (82, false)⟩, 
                        ⟨some 85, .bin .neq (.t 84) (.c (.int .i64 3)), some (82, false)⟩, 
                        ⟨some 86, .move (.t 85), some (82, false)⟩, 
                        ⟨some 87, .fieldA 3 (.t 1), some (86, true)⟩, 
                        ⟨some 88, .load false 1 (.t 87), some (86, true)⟩, 
                        ⟨some 89, .len (.t 88), some (86, true)⟩, 
                        ⟨some 90, .move (.t 5), some (86, true)⟩, 
                        ⟨some 91, .bin .neq (.t 89) (.t 90), some (86, true)⟩, 
                        ⟨some 92, .pick (.t 86) (.t 91) (.c (.bool false)), some (82, false)⟩, 
                        ⟨some 93, .pick (.t 82) (.c (.bool true)) (.t 92), none⟩] false)
                    (.cond (.t 93)
                      (.seq
                        (.ops [⟨some 2, .move (.c (.int .i64 12)), none⟩] false)
                        (.ret))
                      (.skip)))
                  (.seq
                    (.seq
                      (.ops [⟨some 6, .move (.c (.int .i64 0)), none⟩] false)
                      (.block 1
                        (.loop L72_0)))
                    (.seq
                      (.ops [⟨some 2, .move (.c (.int .i64 0)), none⟩] false)
                      (.ret))))))))) }

/- sequitur/sequiturref08.put -/
def L73_0 : AC :=
  .seq
    (.seq
      (.ops [⟨some 7, .move (.t 5), none⟩, 
          ⟨some 8, .move (.t 0), none⟩, 
          ⟨some 9, .len (.t 8), none⟩, 
          ⟨some 10, .bin .lss (.t 7) (.t 9), none⟩, 
          ⟨some 11, .move (.t 10), none⟩, 
          ⟨some 12, .move (.t 0), some (11, true)⟩, 
          ⟨some 13, .move (.t 5), some (11, true)⟩, 
          ⟨some 14, .idxA 1 (.t 12) (.t 13), some (11, true)⟩, 
          ⟨some 15, .load false 1 (.t 14), some (11, true)⟩, 
          ⟨some 16, .move (.t 1), some (11, true)⟩, 
          ⟨some 17, .bin .lss (.t 15) (.t 16), some (11, true)⟩, 
          ⟨some 18, .pick (.t 11) (.t 17) (.c (.bool false)), none⟩] false)
      (.cond (.t 18)
        (.skip)
        (.exit 0)))
    (.block 1
      (.ops [⟨some 19, .move (.t 5), none⟩, 
          ⟨some 20, .bin .add (.t 19) (.c (.int .i64 1)), none⟩, 
          ⟨some 5, .move (.t 20), none⟩] false))
def F73 : AF :=
  { ntmps := 48, results := [.tmp 4], pure := true, body :=
    .seq
      (.ops [⟨some 4, .move (.c (.fsl 1 [])), none⟩] false)
      (.seq
        (.ops [⟨some 5, .move (.c (.int .i64 0)), none⟩] false)
        (.seq
          (.block 0
            (.loop L73_0))
          (.seq
            (.seq
              (.ops [⟨some 21, .move (.t 5), none⟩, 
                  ⟨some 22, .move (.t 0), none⟩, 
                  ⟨some 23, .len (.t 22), none⟩, 
                  ⟨some 24, .bin .lss (.t 21) (.t 23), none⟩, 
                  ⟨some 25, .move (.t 24), none⟩, 
                  ⟨some 26, .move (.t 0), some (25, true)⟩, 
                  ⟨some 27, .move (.t 5), some (25, true)⟩, 
                  ⟨some 28, .idxA 1 (.t 26) (.t 27), some (25, true)⟩, 
                  ⟨some 29, .load false 1 (.t 28), some (25, true)⟩, 
                  ⟨some 30, .move (.t 1), some (25, true)⟩, 
                  ⟨some 31, .bin .eql (.t 29) (.t 30), some (25, true)⟩, 
                  ⟨some 32, .pick (.t 25) (.t 31) (.c (.bool false)), none⟩] false)
              (.cond (.t 32)
                (.seq
                  (.ops [⟨some 33, .move (.t 0), none⟩, 
                      ⟨some 4, .move (.t 33), none⟩] false)
                  (.ret))
                (.skip)))
            (.seq
              (.ops [⟨some 6, .move (.c (.fsl 1 [])), none⟩] false)
              (.seq
                (.ops [⟨some 34, .move (.t 6), none⟩, 
                    ⟨some 35, .move (.t 0), none⟩, 
                    ⟨some 36, .move (.t 5), none⟩, 
                    ⟨some 37, .slice 1 (.t 35) none (some (.t 36)) none, none⟩, 
                    ⟨some 38, .append 9 1 16 (.t 34) (.t 37), none⟩, 
                    ⟨some 6, .move (.t 38), none⟩] false)
                (.seq
                  (.ops [⟨some 39, .move (.t 6), none⟩, 
                      ⟨some 40, .move (.t 1), none⟩, 
                      ⟨some 41, .buildSl 1 [.str ⟨#[]⟩] 1 [(0, .t 40)], none⟩, 
                      ⟨some 42, .append 9 1 16 (.t 39) (.t 41), none⟩, 
                      ⟨some 6, .move (.t 42), none⟩] false)
                  (.seq
                    (.ops [⟨some 43, .move (.t 6), none⟩, 
                        ⟨some 44, .move (.t 0), none⟩, 
                        ⟨some 45, .move (.t 5), none⟩, 
                        ⟨some 46, .slice 1 (.t 44) (some (.t 45)) none none, none⟩, 
                        ⟨some 47, .append 9 1 16 (.t 43) (.t 46), none⟩, 
                        ⟨some 4, .move (.t 47), none⟩] false)
                    (.ret)))))))) }

/- sequitur/bind.walk!i -/
def L1000038_0 : AC :=
  .seq
    (.ops [⟨some 23, .bin .lss (.t 22) (.t 21), none⟩] false)
    (.seq
      (.cond (.t 23)
        (.skip)
        (.exit 0))
      (.seq
        (.block 1
          (.seq
            (.ops [⟨some 24, .idxA 4 (.t 20) (.t 22), none⟩, 
                ⟨some 25, .load true 4 (.t 24), none⟩, 
                ⟨some 9, .alloc 27 [.int .i64 0, .str ⟨#[]⟩, .int .i64 0, .fsl 4 []], none⟩, 
                ⟨none, .store 4 (.t 9) (.t 25), none⟩] false)
            (.opsW [⟨some 26, .fieldA 3 (.t 7), none⟩, 
                ⟨some 27, .load false 1 (.t 26), none⟩, 
                ⟨some 28, .load true 4 (.t 9), none⟩, 
                ⟨some 29, .move (.t 1), none⟩, 
                ⟨some 30, .move (.t 2), none⟩, 
                ⟨some 31, .call 1000053 [.t 28, .t 29, .t 30], none⟩, 
                ⟨some 32, .buildSl 4 [.int .i64 0, .str ⟨#[]⟩, .int .i64 0, .fsl 4 []] 1 [(0, .t 31)], none⟩, 
                ⟨some 33, .append 27 4 56 (.t 27) (.t 32), none⟩, 
                ⟨some 34, .fieldA 3 (.t 7), none⟩, 
                ⟨none, .store 1 (.t 34) (.t 33), none⟩])))
        (.ops [⟨some 35, .bin .add (.t 22) (.c (.int .i64 1)), none⟩, 
            ⟨some 22, .move (.t 35), none⟩] false)))

def L1000038_1 : AC :=
  .seq
    (.ops [⟨some 50, .bin .lss (.t 49) (.t 48), none⟩] false)
    (.seq
      (.cond (.t 50)
        (.skip)
        (.exit 2))
      (.seq
        (.block 3
          (.seq
            (.ops [⟨some 51, .idxA 5 (.t 47) (.t 49), none⟩, 
                ⟨some 52, .load true 5 (.t 51), none⟩, 
                ⟨some 11, .alloc 25 [.int .i64 0, .str ⟨#[]⟩, .str ⟨#[]⟩, .fsl 4 [], .fsl 5 []], none⟩, 
                ⟨none, .store 5 (.t 11) (.t 52), none⟩] false)
            (.opsW [⟨some 53, .fieldA 4 (.t 7), none⟩, 
                ⟨some 54, .load false 1 (.t 53), none⟩, 
                ⟨some 55, .load true 5 (.t 11), none⟩, 
                ⟨some 56, .move (.t 1), none⟩, 
                ⟨some 57, .move (.t 2), none⟩, 
                ⟨some 58, .call 1000038 [.t 55, .t 56, .t 57], none⟩, 
                ⟨some 59, .buildSl 5 [.int .i64 0, .str ⟨#[]⟩, .str ⟨#[]⟩, .fsl 4 [], .fsl 5 []] 1 [(0, .t 58)], none⟩, 
                ⟨some 60, .append 25 5 88 (.t 54) (.t 59), none⟩, 
                ⟨some 61, .fieldA 4 (.t 7), none⟩, 
                ⟨none, .store 1 (.t 61) (.t 60), none⟩])))
        (.ops [⟨some 62, .bin .add (.t 49) (.c (.int .i64 1)), none⟩, 
            ⟨some 49, .move (.t 62), none⟩] false)))
def F1000038 : AF :=
  { ntmps := 64, results := [.cell 6 true 5], pure := false, body :=
    .seq
      (.ops [⟨some 3, .box 25 (.t 0), none⟩, 
          ⟨some 6, .alloc 25 [.int .i64 0, .str ⟨#[]⟩, .str ⟨#[]⟩, .fsl 4 [], .fsl 5 []], none⟩] false)
      (.seq
        (.ops [⟨some 12, .fieldA 0 (.t 3), none⟩, 
            ⟨some 13, .load false 1 (.t 12), none⟩, 
            ⟨some 14, .fieldA 1 (.t 3), none⟩, 
            ⟨some 15, .load false 1 (.t 14), none⟩, 
            ⟨some 16, .fieldA 2 (.t 3), none⟩, 
            ⟨some 17, .load false 1 (.t 16), none⟩, 
            ⟨some 18, .build [.int .i64 0, .str ⟨#[]⟩, .str ⟨#[]⟩, .fsl 4 [], .fsl 5 []] [(0, 1, .t 13), (1, 1, .t 15), (2, 1, .t 17)], none⟩, 
            ⟨some 7, .alloc 25 [.int .i64 0, .str ⟨#[]⟩, .str ⟨#[]⟩, .fsl 4 [], .fsl 5 []], none⟩, 
            ⟨none, .store 5 (.t 7) (.t 18), none⟩] false)
        (.seq
          (.seq
            (.ops [⟨some 19, .fieldA 3 (.t 3), none⟩, 
                ⟨some 20, .load false 1 (.t 19), none⟩, 
                ⟨some 21, .len (.t 20), none⟩, 
                ⟨some 22, .move (.c (.int .i64 0)), none⟩] false)
            (.block 0
              (.loop L1000038_0)))
          (.seq
            (.seq
              (.ops [⟨some 36, .fieldA 0 (.t 3), none⟩, 
                  ⟨some 37, .load false 1 (.t 36), none⟩, 
                  ⟨some 38, .bin .eql (.t 37) (.c (.int .i64 11)), none⟩, 
                  ⟨some 39, .move (.t 38), none⟩, 
                  ⟨some 40, .fieldA 0 (.t 3), some (39, false)⟩, 
                  ⟨some 41, .load false 1 (.t 40), some (39, false)⟩, 
                  ⟨some 42, .bin .eql (.t 41) (.c (.int .i64 12)), some (39, false)⟩, 
                  ⟨some 43, .pick (.t 39) (.c (.bool true)) (.t 42), none⟩] false)
              (.cond (.t 43)
                (.ops [⟨some 44, .move (.t 1), none⟩, 
                    ⟨some 45, .bin .add (.t 44) (.c (.int .i64 1)), none⟩, 
                    ⟨some 1, .move (.t 45), none⟩] false)
                (.skip)))
            (.seq
              (.seq
                (.ops [⟨some 46, .fieldA 4 (.t 3), none⟩, 
                    ⟨some 47, .load false 1 (.t 46), none⟩, 
                    ⟨some 48, .len (.t 47), none⟩, 
                    ⟨some 49, .move (.c (.int .i64 0)), none⟩] false)
                (.block 2
                  (.loop L1000038_1)))
              (.seq
                (.ops [⟨some 63, .load true 5 (.t 7), none⟩, 
                    ⟨none, .store 5 (.t 6) (.t 63), none⟩] false)
                (.ret)))))) }

/- sequitur/bind.term!i -/
def L1000053_0 : AC :=
  .seq
    (.ops [⟨some 25, .bin .lss (.t 24) (.t 23), none⟩] false)
    (.seq
      (.cond (.t 25)
        (.skip)
        (.exit 0))
      (.seq
        (.block 1
          (.seq
            (.ops [⟨some 26, .idxA 4 (.t 22) (.t 24), none⟩, 
                ⟨some 27, .load true 4 (.t 26), none⟩, 
                ⟨some 10, .alloc 27 [.int .i64 0, .str ⟨#[]⟩, .int .i64 0, .fsl 4 []], none⟩, 
                ⟨none, .store 4 (.t 10) (.t 27), none⟩] false)
            (.opsW [⟨some 28, .fieldA 3 (.t 7), none⟩, 
                ⟨some 29, .load false 1 (.t 28), none⟩, 
                ⟨some 30, .load true 4 (.t 10), none⟩, 
                ⟨some 31, .move (.t 1), none⟩, 
                ⟨some 32, .move (.t 2), none⟩, 
                ⟨some 33, .call 1000053 [.t 30, .t 31, .t 32], none⟩, 
                ⟨some 34, .buildSl 4 [.int .i64 0, .str ⟨#[]⟩, .int .i64 0, .fsl 4 []] 1 [(0, .t 33)], none⟩, 
                ⟨some 35, .append 27 4 56 (.t 29) (.t 34), none⟩, 
                ⟨some 36, .fieldA 3 (.t 7), none⟩, 
                ⟨none, .store 1 (.t 36) (.t 35), none⟩])))
        (.ops [⟨some 37, .bin .add (.t 24) (.c (.int .i64 1)), none⟩, 
            ⟨some 24, .move (.t 37), none⟩] false)))
def F1000053 : AF :=
  { ntmps := 39, results := [.cell 6 true 4], pure := false, body :=
    .seq
      (.ops [⟨some 3, .box 27 (.t 0), none⟩, 
          ⟨some 6, .alloc 27 [.int .i64 0, .str ⟨#[]⟩, .int .i64 0, .fsl 4 []], none⟩] false)
      (.seq
        (.ops [⟨some 12, .move (.t 2), none⟩, 
            ⟨some 13, .load true 4 (.t 3), none⟩, 
            ⟨some 14, .move (.t 1), none⟩, 
            ⟨some 15, .callv (.t 12) [.t 13, .t 14], none⟩, 
            ⟨some 11, .move (.t 15), none⟩, 
            ⟨some 16, .extract (.t 11) 0, none⟩, 
            ⟨some 17, .extract (.t 11) 1, none⟩, 
            ⟨some 7, .alloc 27 [.int .i64 0, .str ⟨#[]⟩, .int .i64 0, .fsl 4 []], none⟩, 
            ⟨none, .store 4 (.t 7) (.t 16), none⟩, 
            ⟨some 8, .move (.t 17), none⟩] false)
        (.seq
          (.seq
            (.ops [⟨some 18, .move (.t 8), none⟩] false)
            (.cond (.t 18)
              (.seq
                (.ops [⟨some 19, .load true 4 (.t 7), none⟩, 
                    ⟨none, .store 4 (.t 6) (.t 19), none⟩] false)
                (.ret))
              (.skip)))
          (.seq
            (.ops [⟨some 20, .fieldA 3 (.t 7), none⟩, 
                ⟨none, .store 1 (.t 20) (.c (.fsl 4 [])), none⟩] false)
            (.seq
              (.seq
                (.ops [⟨some 21, .fieldA 3 (.t 3), none⟩, 
                    ⟨some 22, .load false 1 (.t 21), none⟩, 
                    ⟨some 23, .len (.t 22), none⟩, 
                    ⟨some 24, .move (.c (.int .i64 0)), none⟩] false)
                (.block 0
                  (.loop L1000053_0)))
              (.seq
                (.ops [⟨some 38, .load true 4 (.t 7), none⟩, 
                    ⟨none, .store 4 (.t 6) (.t 38), none⟩] false)
                (.ret)))))) }

def T : Tab
  | 3 => some F3
  | 4 => some F4
  | 5 => some F5
  | 6 => some F6
  | 7 => some F7
  | 8 => some F8
  | 9 => some F9
  | 10 => some F10
  | 11 => some F11
  | 12 => some F12
  | 13 => some F13
  | 14 => some F14
  | 15 => some F15
  | 16 => some F16
  | 17 => some F17
  | 18 => some F18
  | 19 => some F19
  | 20 => some F20
  | 21 => some F21
  | 22 => some F22
  | 23 => some F23
  | 24 => some F24
  | 25 => some F25
  | 26 => some F26
  | 27 => some F27
  | 28 => some F28
  | 29 => some F29
  | 30 => some F30
  | 31 => some F31
  | 32 => some F32
  | 33 => some F33
  | 34 => some F34
  | 35 => some F35
  | 36 => some F36
  | 37 => some F37
  | 38 => some F38
  | 39 => some F39
  | 40 => some F40
  | 41 => some F41
  | 42 => some F42
  | 43 => some F43
  | 44 => some F44
  | 45 => some F45
  | 46 => some F46
  | 47 => some F47
  | 48 => some F48
  | 49 => some F49
  | 50 => some F50
  | 51 => some F51
  | 52 => some F52
  | 53 => some F53
  | 54 => some F54
  | 55 => some F55
  | 56 => some F56
  | 57 => some F57
  | 58 => some F58
  | 59 => some F59
  | 60 => some F60
  | 61 => some F61
  | 62 => some F62
  | 63 => some F63
  | 64 => some F64
  | 67 => some F67
  | 68 => some F68
  | 69 => some F69
  | 70 => some F70
  | 71 => some F71
  | 72 => some F72
  | 73 => some F73
  | 1000038 => some F1000038
  | 1000053 => some F1000053
  | _ => none

end Go.Proofs.Ytjmhkbnhfpgciaa.A
