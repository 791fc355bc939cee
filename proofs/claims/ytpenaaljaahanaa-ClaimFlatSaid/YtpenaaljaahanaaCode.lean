/- The functions that the seat reaches, in the interpreter's own code (by gen.py from the loaded program; checked against it in the text behind). -/
import Derived.Test.YtpenaaljaahanaaAbs
namespace Go.Proofs.Ytpenaaljaahanaa.A
open Go

/- sequitur/sequiturlaw08.ClaimCompares -/
def F3 : AF :=
  { ntmps := 31, results := [.tmp 4], pure := true, body :=
    .seq
      (.ops [⟨some 2, .box 25 (.t 0), none⟩, 
          ⟨some 3, .box 25 (.t 1), none⟩, 
          ⟨some 4, .move (.c (.bool false)), none⟩] false)
      (.seq
        (.seq
          (.ops [⟨some 5, .load true 5 (.t 2), none⟩, 
              ⟨some 6, .call 9 [.t 5, .c (.int .i64 400)], none⟩, 
              ⟨some 7, .move (.t 6), none⟩, 
              ⟨some 8, .load true 5 (.t 3), some (7, false)⟩, 
              ⟨some 9, .call 9 [.t 8, .c (.int .i64 400)], some (7, false)⟩, 
              ⟨some 10, .pick (.t 7) (.c (.bool true)) (.t 9), none⟩] false)
          (.cond (.t 10)
            (.seq
              (.ops [⟨some 11, .call 10 [], none⟩, 
                  ⟨some 4, .move (.t 11), none⟩] false)
              (.ret))
            (.skip)))
        (.seq
          (.ops [⟨some 12, .load true 5 (.t 2), none⟩, 
              ⟨some 13, .load true 5 (.t 3), none⟩, 
              ⟨some 14, .call 11 [.t 12, .t 13], none⟩, 
              ⟨some 15, .load true 5 (.t 2), none⟩, 
              ⟨some 16, .load true 5 (.t 3), none⟩, 
              ⟨some 17, .call 12 [.t 15, .t 16], none⟩, 
              ⟨some 18, .beq false (.t 14) (.t 17), none⟩, 
              ⟨some 19, .move (.t 18), none⟩, 
              ⟨some 20, .load true 5 (.t 2), some (19, true)⟩, 
              ⟨some 21, .load true 5 (.t 3), some (19, true)⟩, 
              ⟨some 22, .call 13 [.t 20, .t 21], some (19, true)⟩, 
              ⟨some 23, .load true 5 (.t 2), some (19, true)⟩, 
              ⟨some 24, .load true 5 (.t 3), some (19, true)⟩, 
              ⟨some 25, .call 14 [.t 23, .t 24], some (19, true)⟩, 
              ⟨some 26, .bin .eql (.t 22) (.t 25), some (19, true)⟩, 
              ⟨some 27, .pick (.t 19) (.t 26) (.c (.bool false)), none⟩, 
              ⟨some 28, .move (.t 27), none⟩, 
              ⟨some 29, .call 10 [], some (28, true)⟩, 
              ⟨some 30, .pick (.t 28) (.t 29) (.c (.bool false)), none⟩, 
              ⟨some 4, .move (.t 30), none⟩] true)
          (.ret))) }

/- sequitur/sequiturlaw08.ClaimBuilds -/
def F4 : AF :=
  { ntmps := 51, results := [.tmp 6], pure := true, body :=
    .seq
      (.ops [⟨some 4, .box 25 (.t 1), none⟩, 
          ⟨some 6, .move (.c (.bool false)), none⟩] false)
      (.seq
        (.seq
          (.ops [⟨some 7, .move (.t 0), none⟩, 
              ⟨some 8, .len (.t 7), none⟩, 
              ⟨some 9, .bin .gtr (.t 8) (.c (.int .i64 20)), none⟩, 
              ⟨some 10, .move (.t 9), none⟩, 
              ⟨some 11, .move (.t 0), some (10, false)⟩, 
              ⟨some 12, .call 15 [.t 11, .c (.int .i64 200)], some (10, false)⟩, 
              ⟨some 13, .not (.t 12), some (10, false)⟩, 
              ⟨some 14, .pick (.t 10) (.c (.bool true)) (.t 13), none⟩, 
              ⟨some 15, .move (.t 14), none⟩, 
              ⟨some 16, .load true 5 (.t 4), some (15, false)⟩, 
              ⟨some 17, .call 9 [.t 16, .c (.int .i64 200)], some (15, false)⟩, 
              ⟨some 18, .pick (.t 15) (.c (.bool true)) (.t 17), none⟩] false)
          (.cond (.t 18)
            (.seq
              (.ops [⟨some 19, .call 10 [], none⟩, 
                  ⟨some 6, .move (.t 19), none⟩] false)
              (.ret))
            (.skip)))
        (.seq
          (.ops [⟨some 20, .load true 5 (.t 4), none⟩, 
              ⟨some 21, .call 17 [.t 20], none⟩, 
              ⟨some 22, .load true 5 (.t 4), none⟩, 
              ⟨some 23, .call 18 [.t 22], none⟩, 
              ⟨some 24, .call 16 [.t 21, .t 23], none⟩, 
              ⟨some 25, .move (.t 24), none⟩, 
              ⟨some 26, .move (.t 0), some (25, true)⟩, 
              ⟨some 27, .call 19 [.t 26], some (25, true)⟩, 
              ⟨some 28, .move (.t 0), some (25, true)⟩, 
              ⟨some 29, .call 20 [.c (.int .i64 7), .t 28], some (25, true)⟩, 
              ⟨some 30, .call 16 [.t 27, .t 29], some (25, true)⟩, 
              ⟨some 31, .pick (.t 25) (.t 30) (.c (.bool false)), none⟩, 
              ⟨some 32, .move (.t 31), none⟩, 
              ⟨some 33, .move (.t 0), some (32, true)⟩, 
              ⟨some 34, .call 21 [.t 33], some (32, true)⟩, 
              ⟨some 35, .move (.t 0), some (32, true)⟩, 
              ⟨some 36, .call 20 [.c (.int .i64 8), .t 35], some (32, true)⟩, 
              ⟨some 37, .call 16 [.t 34, .t 36], some (32, true)⟩, 
              ⟨some 38, .pick (.t 32) (.t 37) (.c (.bool false)), none⟩, 
              ⟨some 39, .move (.t 38), none⟩, 
              ⟨some 40, .load true 5 (.t 4), some (39, true)⟩, 
              ⟨some 41, .move (.t 2), some (39, true)⟩, 
              ⟨some 42, .call 23 [.t 40, .t 41], some (39, true)⟩, 
              ⟨some 43, .load true 5 (.t 4), some (39, true)⟩, 
              ⟨some 44, .move (.t 2), some (39, true)⟩, 
              ⟨some 45, .call 24 [.t 43, .t 44], some (39, true)⟩, 
              ⟨some 46, .call 22 [.t 42, .t 45], some (39, true)⟩, 
              ⟨some 47, .pick (.t 39) (.t 46) (.c (.bool false)), none⟩, 
              ⟨some 48, .move (.t 47), none⟩, 
              ⟨some 49, .call 10 [], some (48, true)⟩, 
              ⟨some 50, .pick (.t 48) (.t 49) (.c (.bool false)), none⟩, 
              ⟨some 6, .move (.t 50), none⟩] true)
          (.ret))) }

/- sequitur/sequiturlaw08.ClaimOrder -/
def F5 : AF :=
  { ntmps := 118, results := [.tmp 8], pure := true, body :=
    .seq
      (.ops [⟨some 4, .box 25 (.t 0), none⟩, 
          ⟨some 5, .box 25 (.t 1), none⟩, 
          ⟨some 6, .box 25 (.t 2), none⟩, 
          ⟨some 8, .move (.c (.bool false)), none⟩] false)
      (.seq
        (.seq
          (.ops [⟨some 13, .load true 5 (.t 4), none⟩, 
              ⟨some 14, .call 9 [.t 13, .c (.int .i64 400)], none⟩, 
              ⟨some 15, .move (.t 14), none⟩, 
              ⟨some 16, .load true 5 (.t 5), some (15, false)⟩, 
              ⟨some 17, .call 9 [.t 16, .c (.int .i64 400)], some (15, false)⟩, 
              ⟨some 18, .pick (.t 15) (.c (.bool true)) (.t 17), none⟩, 
              ⟨some 19, .move (.t 18), none⟩, 
              ⟨some 20, .load true 5 (.t 6), some (19, false)⟩, 
              ⟨some 21, .call 9 [.t 20, .c (.int .i64 400)], some (19, false)⟩, 
              ⟨some 22, .pick (.t 19) (.c (.bool true)) (.t 21), none⟩, 
              ⟨some 23, .move (.t 22), none⟩, 
              ⟨some 24, .move (.t 3), some (23, false)⟩, 
              ⟨some 25, .lenS (.t 24), some (23, false)⟩, 
              ⟨some 26, .bin .gtr (.t 25) (.c (.int .i64 100)), some (23, false)⟩, 
              ⟨some 27, .pick (.t 23) (.c (.bool true)) (.t 26), none⟩] false)
          (.cond (.t 27)
            (.seq
              (.ops [⟨some 28, .call 10 [], none⟩, 
                  ⟨some 8, .move (.t 28), none⟩] false)
              (.ret))
            (.skip)))
        (.seq
          (.ops [⟨some 29, .load true 5 (.t 4), none⟩, 
              ⟨some 30, .load true 5 (.t 5), none⟩, 
              ⟨some 31, .call 13 [.t 29, .t 30], none⟩, 
              ⟨some 32, .load true 5 (.t 5), none⟩, 
              ⟨some 33, .load true 5 (.t 6), none⟩, 
              ⟨some 34, .call 13 [.t 32, .t 33], none⟩, 
              ⟨some 35, .load true 5 (.t 4), none⟩, 
              ⟨some 36, .load true 5 (.t 6), none⟩, 
              ⟨some 37, .call 13 [.t 35, .t 36], none⟩, 
              ⟨some 9, .move (.t 31), none⟩, 
              ⟨some 10, .move (.t 34), none⟩, 
              ⟨some 11, .move (.t 37), none⟩] true)
          (.seq
            (.seq
              (.ops [⟨some 38, .move (.t 9), none⟩, 
                  ⟨some 39, .load true 5 (.t 5), none⟩, 
                  ⟨some 40, .load true 5 (.t 4), none⟩, 
                  ⟨some 41, .call 13 [.t 39, .t 40], none⟩, 
                  ⟨some 42, .neg (.t 41), none⟩, 
                  ⟨some 43, .bin .neq (.t 38) (.t 42), none⟩, 
                  ⟨some 44, .move (.t 43), none⟩, 
                  ⟨some 45, .move (.t 9), some (44, false)⟩, 
                  ⟨some 46, .bin .eql (.t 45) (.c (.int .i64 0)), some (44, false)⟩, 
                  ⟨some 47, .load true 5 (.t 4), some (44, false)⟩, 
                  ⟨some 48, .load true 5 (.t 5), some (44, false)⟩, 
                  ⟨some 49, .call 11 [.t 47, .t 48], some (44, false)⟩, 
                  ⟨some 50, .beq true (.t 46) (.t 49), some (44, false)⟩, 
                  ⟨some 51, .pick (.t 44) (.c (.bool true)) (.t 50), none⟩, 
                  ⟨some 52, .move (.t 51), none⟩, 
                  ⟨some 53, .move (.t 9), some (52, false)⟩, 
                  ⟨some 54, .bin .lss (.t 53) (.c (.int .i64 (-1))), some (52, false)⟩, 
                  ⟨some 55, .pick (.t 52) (.c (.bool true)) (.t 54), none⟩, 
                  ⟨some 56, .move (.t 55), none⟩, 
                  ⟨some 57, .move (.t 9), some (56, false)⟩, 
                  ⟨some 58, .bin .gtr (.t 57) (.c (.int .i64 1)), some (56, false)⟩, 
                  ⟨some 59, .pick (.t 56) (.c (.bool true)) (.t 58), none⟩, 
                  ⟨some 60, .move (.t 59), none⟩, 
                  ⟨some 61, .load true 5 (.t 4), some (60, false)⟩, 
                  ⟨some 62, .load true 5 (.t 4), some (60, false)⟩, 
                  ⟨some 63, .call 13 [.t 61, .t 62], some (60, false)⟩, 
                  ⟨some 64, .bin .neq (.t 63) (.c (.int .i64 0)), some (60, false)⟩, 
                  ⟨some 65, .pick (.t 60) (.c (.bool true)) (.t 64), none⟩] false)
              (.cond (.t 65)
                (.seq
                  (.ops [⟨some 8, .move (.c (.bool false)), none⟩] false)
                  (.ret))
                (.skip)))
            (.seq
              (.seq
                (.ops [⟨some 66, .move (.t 9), none⟩, 
                    ⟨some 67, .bin .leq (.t 66) (.c (.int .i64 0)), none⟩, 
                    ⟨some 68, .move (.t 67), none⟩, 
                    ⟨some 69, .move (.t 10), some (68, true)⟩, 
                    ⟨some 70, .bin .leq (.t 69) (.c (.int .i64 0)), some (68, true)⟩, 
                    ⟨some 71, .pick (.t 68) (.t 70) (.c (.bool false)), none⟩, 
                    ⟨some 72, .move (.t 71), none⟩, 
                    ⟨some 73, .move (.t 11), some (72, true)⟩, 
                    ⟨some 74, .bin .gtr (.t 73) (.c (.int .i64 0)), some (72, true)⟩, 
                    ⟨some 75, .move (.t 74), some (72, true)⟩, 
                    ⟨some 76, .move (.t 11), some (75, false)⟩, 
                    ⟨some 77, .bin .eql (.t 76) (.c (.int .i64 0)), some (75, false)⟩, 
                    ⟨some 78, .move (.t 77), some (75, false)⟩, 
                    ⟨some 79, .move (.t 9), some (78, true)⟩, 
                    ⟨some 80, .bin .lss (.t 79) (.c (.int .i64 0)), some (78, true)⟩, 
                    ⟨some 81, .move (.t 80), some (78, true)⟩, 
                    ⟨some 82, .move (.t 10), some (81, false)⟩, 
                    ⟨some 83, .bin .lss (.t 82) (.c (.int .i64 0)), some (81, false)⟩, 
                    ⟨some 84, .pick (.t 81) (.c (.bool true)) (.t 83), some (78, true)⟩, 
                    ⟨some 85, .pick (.t 78) (.t 84) (.c (.bool false)), some (75, false)⟩, 
                    ⟨some 86, .pick (.t 75) (.c (.bool true)) (.t 85), some (72, true)⟩, 
                    ⟨some 87, .pick (.t 72) (.t 86) (.c (.bool false)), none⟩] false)
                (.cond (.t 87)
                  (.seq
                    (.ops [⟨some 8, .move (.c (.bool false)), none⟩] false)
                    (.ret))
                  (.skip)))
              (.seq
                (.ops [⟨some 88, .load true 5 (.t 4), none⟩, 
                    ⟨some 12, .alloc 25 [.int .i64 0, .str ⟨#[]⟩, .str ⟨#[]⟩, .fsl 4 [], .fsl 5 []], none⟩, 
                    ⟨none, .store 5 (.t 12) (.t 88), none⟩] false)
                (.seq
                  (.seq
                    (.ops [⟨some 89, .fieldA 0 (.t 4), none⟩, 
                        ⟨some 90, .load false 1 (.t 89), none⟩, 
                        ⟨some 91, .bin .eql (.t 90) (.c (.int .i64 11)), none⟩, 
                        ⟨some 92, .move (.t 91), none⟩, 
                        ⟨some 93, .fieldA 0 (.t 4), some (92, false)⟩, 
                        ⟨some 94, .load false 1 (.t 93), some (92, false)⟩, 
                        ⟨some 95, .bin .eql (.t 94) (.c (.int .i64 12)), some (92, false)⟩, 
                        ⟨some 96, .pick (.t 92) (.c (.bool true)) (.t 95), none⟩] false)
                    (.cond (.t 96)
                      (.ops [⟨some 97, .move (.t 3), none⟩, 
                          ⟨some 98, .fieldA 1 (.t 12), none⟩, 
                          ⟨none, .store 1 (.t 98) (.t 97), none⟩] false)
                      (.skip)))
                  (.seq
                    (.ops [⟨some 99, .load true 5 (.t 4), none⟩, 
                        ⟨some 100, .load true 5 (.t 12), none⟩, 
                        ⟨some 101, .call 11 [.t 99, .t 100], none⟩, 
                        ⟨some 102, .move (.t 101), none⟩, 
                        ⟨some 103, .load true 5 (.t 4), some (102, true)⟩, 
                        ⟨some 104, .load true 5 (.t 12), some (102, true)⟩, 
                        ⟨some 105, .call 13 [.t 103, .t 104], some (102, true)⟩, 
                        ⟨some 106, .bin .eql (.t 105) (.c (.int .i64 0)), some (102, true)⟩, 
                        ⟨some 107, .pick (.t 102) (.t 106) (.c (.bool false)), none⟩, 
                        ⟨some 108, .move (.t 107), none⟩, 
                        ⟨some 109, .load true 5 (.t 12), some (108, true)⟩, 
                        ⟨some 110, .load true 5 (.t 5), some (108, true)⟩, 
                        ⟨some 111, .call 13 [.t 109, .t 110], some (108, true)⟩, 
                        ⟨some 112, .move (.t 9), some (108, true)⟩, 
                        ⟨some 113, .bin .eql (.t 111) (.t 112), some (108, true)⟩, 
                        ⟨some 114, .pick (.t 108) (.t 113) (.c (.bool false)), none⟩, 
                        ⟨some 115, .move (.t 114), none⟩, 
                        ⟨some 116, .call 10 [], some (115, true)⟩, 
                        ⟨some 117, .pick (.t 115) (.t 116) (.c (.bool false)), none⟩, 
                        ⟨some 8, .move (.t 117), none⟩] false)
                    (.ret)))))))) }

/- sequitur/sequiturlaw08.ClaimFlat -/
def L7_0 : AC :=
  .seq
    (.ops [⟨some 26, .bin .lss (.t 25) (.t 24), none⟩] false)
    (.seq
      (.cond (.t 26)
        (.skip)
        (.exit 0))
      (.seq
        (.block 1
          (.seq
            (.ops [⟨some 27, .idxA 5 (.t 23) (.t 25), none⟩, 
                ⟨some 28, .load true 5 (.t 27), none⟩, 
                ⟨some 6, .alloc 25 [.int .i64 0, .str ⟨#[]⟩, .str ⟨#[]⟩, .fsl 4 [], .fsl 5 []], none⟩, 
                ⟨none, .store 5 (.t 6) (.t 28), none⟩] false)
            (.seq
              (.ops [⟨some 29, .move (.t 3), none⟩, 
                  ⟨some 30, .move (.t 29), none⟩, 
                  ⟨some 31, .fieldA 0 (.t 6), some (30, false)⟩, 
                  ⟨some 32, .load false 1 (.t 31), some (30, false)⟩, 
                  ⟨some 33, .bin .eql (.t 32) (.c (.int .i64 7)), some (30, false)⟩, 
                  ⟨some 34, .pick (.t 30) (.c (.bool true)) (.t 33), none⟩, 
                  ⟨some 3, .move (.t 34), none⟩] false)
              (.ops [⟨some 35, .move (.t 4), none⟩, 
                  ⟨some 36, .move (.t 35), none⟩, 
                  ⟨some 37, .fieldA 0 (.t 6), some (36, false)⟩, 
                  ⟨some 38, .load false 1 (.t 37), some (36, false)⟩, 
                  ⟨some 39, .bin .eql (.t 38) (.c (.int .i64 8)), some (36, false)⟩, 
                  ⟨some 40, .pick (.t 36) (.c (.bool true)) (.t 39), none⟩, 
                  ⟨some 4, .move (.t 40), none⟩] false))))
        (.ops [⟨some 41, .bin .add (.t 25) (.c (.int .i64 1)), none⟩, 
            ⟨some 25, .move (.t 41), none⟩] false)))
def F7 : AF :=
  { ntmps := 83, results := [.tmp 2], pure := true, body :=
    .seq
      (.ops [⟨some 2, .move (.c (.bool false)), none⟩] false)
      (.seq
        (.seq
          (.ops [⟨some 9, .move (.t 0), none⟩, 
              ⟨some 10, .len (.t 9), none⟩, 
              ⟨some 11, .bin .eql (.t 10) (.c (.int .i64 0)), none⟩, 
              ⟨some 12, .move (.t 11), none⟩, 
              ⟨some 13, .move (.t 0), some (12, false)⟩, 
              ⟨some 14, .len (.t 13), some (12, false)⟩, 
              ⟨some 15, .bin .gtr (.t 14) (.c (.int .i64 20)), some (12, false)⟩, 
              ⟨some 16, .pick (.t 12) (.c (.bool true)) (.t 15), none⟩, 
              ⟨some 17, .move (.t 16), none⟩, 
              ⟨some 18, .move (.t 0), some (17, false)⟩, 
              ⟨some 19, .call 15 [.t 18, .c (.int .i64 200)], some (17, false)⟩, 
              ⟨some 20, .not (.t 19), some (17, false)⟩, 
              ⟨some 21, .pick (.t 17) (.c (.bool true)) (.t 20), none⟩] false)
          (.cond (.t 21)
            (.seq
              (.ops [⟨some 22, .call 10 [], none⟩, 
                  ⟨some 2, .move (.t 22), none⟩] false)
              (.ret))
            (.skip)))
        (.seq
          (.ops [⟨some 3, .move (.c (.bool false)), none⟩, 
              ⟨some 4, .move (.c (.bool false)), none⟩] false)
          (.seq
            (.seq
              (.ops [⟨some 23, .move (.t 0), none⟩, 
                  ⟨some 24, .len (.t 23), none⟩, 
                  ⟨some 25, .move (.c (.int .i64 0)), none⟩] false)
              (.block 0
                (.loop L7_0)))
            (.seq
              (.ops [⟨some 42, .move (.t 0), none⟩, 
                  ⟨some 43, .call 19 [.t 42], none⟩, 
                  ⟨some 44, .move (.t 0), none⟩, 
                  ⟨some 45, .call 21 [.t 44], none⟩, 
                  ⟨some 7, .alloc 25 [.int .i64 0, .str ⟨#[]⟩, .str ⟨#[]⟩, .fsl 4 [], .fsl 5 []], none⟩, 
                  ⟨some 8, .alloc 25 [.int .i64 0, .str ⟨#[]⟩, .str ⟨#[]⟩, .fsl 4 [], .fsl 5 []], none⟩, 
                  ⟨none, .store 5 (.t 7) (.t 43), none⟩, 
                  ⟨none, .store 5 (.t 8) (.t 45), none⟩] false)
              (.seq
                (.seq
                  (.ops [⟨some 46, .move (.t 3), none⟩, 
                      ⟨some 47, .not (.t 46), none⟩, 
                      ⟨some 48, .move (.t 47), none⟩, 
                      ⟨some 49, .load true 5 (.t 7), some (48, true)⟩, 
                      ⟨some 50, .call 23 [.t 49, .c (.int .i64 7)], some (48, true)⟩, 
                      ⟨some 51, .move (.t 0), some (48, true)⟩, 
                      ⟨some 52, .call 28 [.t 50, .t 51], some (48, true)⟩, 
                      ⟨some 53, .not (.t 52), some (48, true)⟩, 
                      ⟨some 54, .pick (.t 48) (.t 53) (.c (.bool false)), none⟩, 
                      ⟨some 55, .move (.t 54), none⟩, 
                      ⟨some 56, .move (.t 4), some (55, false)⟩, 
                      ⟨some 57, .not (.t 56), some (55, false)⟩, 
                      ⟨some 58, .move (.t 57), some (55, false)⟩, 
                      ⟨some 59, .load true 5 (.t 8), some (58, true)⟩, 
                      ⟨some 60, .call 23 [.t 59, .c (.int .i64 8)], some (58, true)⟩, 
                      ⟨some 61, .move (.t 0), some (58, true)⟩, 
                      ⟨some 62, .call 28 [.t 60, .t 61], some (58, true)⟩, 
                      ⟨some 63, .not (.t 62), some (58, true)⟩, 
                      ⟨some 64, .pick (.t 58) (.t 63) (.c (.bool false)), some (55, false)⟩, 
                      ⟨some 65, .pick (.t 55) (.c (.bool true)) (.t 64), none⟩] false)
                  (.cond (.t 65)
                    (.seq
                      (.ops [⟨some 2, .move (.c (.bool false)), none⟩] false)
                      (.ret))
                    (.skip)))
                (.seq
                  (.ops [⟨some 66, .load true 5 (.t 7), none⟩, 
                      ⟨some 67, .buildSl 5 [.int .i64 0, .str ⟨#[]⟩, .str ⟨#[]⟩, .fsl 4 [], .fsl 5 []] 1 [(0, .t 66)], none⟩, 
                      ⟨some 68, .call 29 [.t 67], none⟩, 
                      ⟨some 69, .move (.t 0), none⟩, 
                      ⟨some 70, .call 29 [.t 69], none⟩, 
                      ⟨some 71, .call 28 [.t 68, .t 70], none⟩, 
                      ⟨some 72, .move (.t 71), none⟩, 
                      ⟨some 73, .load true 5 (.t 8), some (72, true)⟩, 
                      ⟨some 74, .buildSl 5 [.int .i64 0, .str ⟨#[]⟩, .str ⟨#[]⟩, .fsl 4 [], .fsl 5 []] 1 [(0, .t 73)], some (72, true)⟩, 
                      ⟨some 75, .call 31 [.t 74], some (72, true)⟩, 
                      ⟨some 76, .move (.t 0), some (72, true)⟩, 
                      ⟨some 77, .call 31 [.t 76], some (72, true)⟩, 
                      ⟨some 78, .call 30 [.t 75, .t 77], some (72, true)⟩, 
                      ⟨some 79, .pick (.t 72) (.t 78) (.c (.bool false)), none⟩, 
                      ⟨some 80, .move (.t 79), none⟩, 
                      ⟨some 81, .call 10 [], some (80, true)⟩, 
                      ⟨some 82, .pick (.t 80) (.t 81) (.c (.bool false)), none⟩, 
                      ⟨some 2, .move (.t 82), none⟩] false)
                  (.ret))))))) }

/- sequitur/sequiturlaw08.ClaimGathers -/
def L8_0 : AC :=
  .seq
    (.ops [⟨some 17, .bin .lss (.t 16) (.t 15), none⟩] false)
    (.seq
      (.cond (.t 17)
        (.skip)
        (.exit 0))
      (.seq
        (.block 1
          (.seq
            (.ops [⟨some 18, .idxA 5 (.t 14) (.t 16), none⟩, 
                ⟨some 19, .load true 5 (.t 18), none⟩, 
                ⟨some 4, .alloc 25 [.int .i64 0, .str ⟨#[]⟩, .str ⟨#[]⟩, .fsl 4 [], .fsl 5 []], none⟩, 
                ⟨none, .store 5 (.t 4) (.t 19), none⟩] false)
            (.seq
              (.ops [⟨some 20, .load true 5 (.t 4), none⟩, 
                  ⟨some 21, .call 33 [.t 20], none⟩, 
                  ⟨some 22, .load true 5 (.t 4), none⟩, 
                  ⟨some 23, .call 34 [.t 22], none⟩, 
                  ⟨some 24, .call 32 [.t 21, .t 23], none⟩, 
                  ⟨some 25, .not (.t 24), none⟩] true)
              (.cond (.t 25)
                (.seq
                  (.ops [⟨some 2, .move (.c (.bool false)), none⟩] false)
                  (.ret))
                (.skip)))))
        (.ops [⟨some 26, .bin .add (.t 16) (.c (.int .i64 1)), none⟩, 
            ⟨some 16, .move (.t 26), none⟩] false)))
def F8 : AF :=
  { ntmps := 42, results := [.tmp 2], pure := true, body :=
    .seq
      (.ops [⟨some 2, .move (.c (.bool false)), none⟩] false)
      (.seq
        (.seq
          (.ops [⟨some 5, .move (.t 0), none⟩, 
              ⟨some 6, .len (.t 5), none⟩, 
              ⟨some 7, .bin .gtr (.t 6) (.c (.int .i64 20)), none⟩, 
              ⟨some 8, .move (.t 7), none⟩, 
              ⟨some 9, .move (.t 0), some (8, false)⟩, 
              ⟨some 10, .call 15 [.t 9, .c (.int .i64 200)], some (8, false)⟩, 
              ⟨some 11, .not (.t 10), some (8, false)⟩, 
              ⟨some 12, .pick (.t 8) (.c (.bool true)) (.t 11), none⟩] false)
          (.cond (.t 12)
            (.seq
              (.ops [⟨some 13, .call 10 [], none⟩, 
                  ⟨some 2, .move (.t 13), none⟩] false)
              (.ret))
            (.skip)))
        (.seq
          (.seq
            (.ops [⟨some 14, .move (.t 0), none⟩, 
                ⟨some 15, .len (.t 14), none⟩, 
                ⟨some 16, .move (.c (.int .i64 0)), none⟩] false)
            (.block 0
              (.loop L8_0)))
          (.seq
            (.ops [⟨some 27, .move (.t 0), none⟩, 
                ⟨some 28, .call 31 [.t 27], none⟩, 
                ⟨some 29, .move (.t 0), none⟩, 
                ⟨some 30, .call 35 [.t 29], none⟩, 
                ⟨some 31, .call 30 [.t 28, .t 30], none⟩, 
                ⟨some 32, .move (.t 31), none⟩, 
                ⟨some 33, .move (.t 0), some (32, true)⟩, 
                ⟨some 34, .call 29 [.t 33], some (32, true)⟩, 
                ⟨some 35, .move (.t 0), some (32, true)⟩, 
                ⟨some 36, .call 36 [.t 35], some (32, true)⟩, 
                ⟨some 37, .call 22 [.t 34, .t 36], some (32, true)⟩, 
                ⟨some 38, .pick (.t 32) (.t 37) (.c (.bool false)), none⟩, 
                ⟨some 39, .move (.t 38), none⟩, 
                ⟨some 40, .call 10 [], some (39, true)⟩, 
                ⟨some 41, .pick (.t 39) (.t 40) (.c (.bool false)), none⟩, 
                ⟨some 2, .move (.t 41), none⟩] false)
            (.ret)))) }

/- sequitur/sequiturbase.Big -/
def F9 : AF :=
  { ntmps := 10, results := [.tmp 4], pure := true, body :=
    .seq
      (.ops [⟨some 2, .box 25 (.t 0), none⟩, 
          ⟨some 4, .move (.c (.bool false)), none⟩] false)
      (.seq
        (.ops [⟨some 5, .load true 5 (.t 2), none⟩, 
            ⟨some 6, .move (.t 1), none⟩, 
            ⟨some 7, .call 37 [.t 5, .t 6], none⟩, 
            ⟨some 8, .move (.t 1), none⟩, 
            ⟨some 9, .bin .gtr (.t 7) (.t 8), none⟩, 
            ⟨some 4, .move (.t 9), none⟩] false)
        (.ret)) }

/- sequitur/sequiturlaw08.alive -/
def F10 : AF :=
  { ntmps := 37, results := [.tmp 0], pure := true, body :=
    .seq
      (.ops [⟨some 0, .move (.c (.bool false)), none⟩] false)
      (.seq
        (.ops [⟨some 5, .call 38 [.c (.str ⟨#[97]⟩)], none⟩, 
            ⟨some 6, .call 38 [.c (.str ⟨#[98]⟩)], none⟩, 
            ⟨some 7, .call 38 [.c (.str ⟨#[99]⟩)], none⟩, 
            ⟨some 1, .alloc 25 [.int .i64 0, .str ⟨#[]⟩, .str ⟨#[]⟩, .fsl 4 [], .fsl 5 []], none⟩, 
            ⟨some 2, .alloc 25 [.int .i64 0, .str ⟨#[]⟩, .str ⟨#[]⟩, .fsl 4 [], .fsl 5 []], none⟩, 
            ⟨some 3, .alloc 25 [.int .i64 0, .str ⟨#[]⟩, .str ⟨#[]⟩, .fsl 4 [], .fsl 5 []], none⟩, 
            ⟨none, .store 5 (.t 1) (.t 5), none⟩, 
            ⟨none, .store 5 (.t 2) (.t 6), none⟩, 
            ⟨none, .store 5 (.t 3) (.t 7), none⟩] false)
        (.seq
          (.ops [⟨some 8, .load true 5 (.t 1), none⟩, 
              ⟨some 9, .load true 5 (.t 2), none⟩, 
              ⟨some 10, .load true 5 (.t 3), none⟩, 
              ⟨some 11, .buildSl 5 [.int .i64 0, .str ⟨#[]⟩, .str ⟨#[]⟩, .fsl 4 [], .fsl 5 []] 3 [(0, .t 8), (1, .t 9), (2, .t 10)], none⟩, 
              ⟨some 12, .call 19 [.t 11], none⟩, 
              ⟨some 4, .alloc 25 [.int .i64 0, .str ⟨#[]⟩, .str ⟨#[]⟩, .fsl 4 [], .fsl 5 []], none⟩, 
              ⟨none, .store 5 (.t 4) (.t 12), none⟩] false)
          (.seq
            (.ops [⟨some 13, .load true 5 (.t 4), none⟩, 
                ⟨some 14, .call 23 [.t 13, .c (.int .i64 7)], none⟩, 
                ⟨some 15, .load true 5 (.t 1), none⟩, 
                ⟨some 16, .load true 5 (.t 2), none⟩, 
                ⟨some 17, .load true 5 (.t 3), none⟩, 
                ⟨some 18, .buildSl 5 [.int .i64 0, .str ⟨#[]⟩, .str ⟨#[]⟩, .fsl 4 [], .fsl 5 []] 3 [(0, .t 15), (1, .t 16), (2, .t 17)], none⟩, 
                ⟨some 19, .call 28 [.t 14, .t 18], none⟩, 
                ⟨some 20, .move (.t 19), none⟩, 
                ⟨some 21, .load true 5 (.t 4), some (20, true)⟩, 
                ⟨some 22, .call 23 [.t 21, .c (.int .i64 8)], some (20, true)⟩, 
                ⟨some 23, .len (.t 22), some (20, true)⟩, 
                ⟨some 24, .bin .eql (.t 23) (.c (.int .i64 1)), some (20, true)⟩, 
                ⟨some 25, .pick (.t 20) (.t 24) (.c (.bool false)), none⟩, 
                ⟨some 26, .move (.t 25), none⟩, 
                ⟨some 27, .load true 5 (.t 1), some (26, true)⟩, 
                ⟨some 28, .call 17 [.t 27], some (26, true)⟩, 
                ⟨some 29, .load true 5 (.t 1), some (26, true)⟩, 
                ⟨some 30, .buildSl 5 [.int .i64 0, .str ⟨#[]⟩, .str ⟨#[]⟩, .fsl 4 [], .fsl 5 []] 2 [(0, .t 28), (1, .t 29)], some (26, true)⟩, 
                ⟨some 31, .call 21 [.t 30], some (26, true)⟩, 
                ⟨some 32, .buildSl 5 [.int .i64 0, .str ⟨#[]⟩, .str ⟨#[]⟩, .fsl 4 [], .fsl 5 []] 1 [(0, .t 31)], some (26, true)⟩, 
                ⟨some 33, .call 29 [.t 32], some (26, true)⟩, 
                ⟨some 34, .len (.t 33), some (26, true)⟩, 
                ⟨some 35, .bin .eql (.t 34) (.c (.int .i64 1)), some (26, true)⟩, 
                ⟨some 36, .pick (.t 26) (.t 35) (.c (.bool false)), none⟩, 
                ⟨some 0, .move (.t 36), none⟩] true)
            (.ret)))) }

/- sequitur/claim.Same -/
def F11 : AF :=
  { ntmps := 9, results := [.tmp 4], pure := true, body :=
    .seq
      (.ops [⟨some 2, .box 25 (.t 0), none⟩, 
          ⟨some 3, .box 25 (.t 1), none⟩, 
          ⟨some 4, .move (.c (.bool false)), none⟩] false)
      (.seq
        (.ops [⟨some 5, .load true 5 (.t 2), none⟩, 
            ⟨some 6, .load true 5 (.t 3), none⟩, 
            ⟨some 7, .call 13 [.t 5, .t 6], none⟩, 
            ⟨some 8, .bin .eql (.t 7) (.c (.int .i64 0)), none⟩, 
            ⟨some 4, .move (.t 8), none⟩] false)
        (.ret)) }

/- sequitur/sequiturref08.Same -/
def F12 : AF :=
  { ntmps := 8, results := [.tmp 4], pure := true, body :=
    .seq
      (.ops [⟨some 2, .box 25 (.t 0), none⟩, 
          ⟨some 3, .box 25 (.t 1), none⟩, 
          ⟨some 4, .move (.c (.bool false)), none⟩] false)
      (.seq
        (.ops [⟨some 5, .load true 5 (.t 2), none⟩, 
            ⟨some 6, .load true 5 (.t 3), none⟩, 
            ⟨some 7, .call 39 [.t 5, .t 6], none⟩, 
            ⟨some 4, .move (.t 7), none⟩] false)
        (.ret)) }

/- sequitur/claim.Compare -/
def L13_0 : AC :=
  .seq
    (.ops [⟨some 50, .bin .lss (.t 49) (.t 48), none⟩] false)
    (.seq
      (.cond (.t 50)
        (.skip)
        (.exit 0))
      (.seq
        (.block 1
          (.seq
            (.ops [⟨some 51, .move (.t 49), none⟩, 
                ⟨some 6, .move (.t 51), none⟩] false)
            (.seq
              (.ops [⟨some 52, .fieldA 3 (.t 2), none⟩, 
                  ⟨some 53, .load false 1 (.t 52), none⟩, 
                  ⟨some 54, .move (.t 6), none⟩, 
                  ⟨some 55, .idxA 4 (.t 53) (.t 54), none⟩, 
                  ⟨some 56, .load true 4 (.t 55), none⟩, 
                  ⟨some 57, .fieldA 3 (.t 3), none⟩, 
                  ⟨some 58, .load false 1 (.t 57), none⟩, 
                  ⟨some 59, .move (.t 6), none⟩, 
                  ⟨some 60, .idxA 4 (.t 58) (.t 59), none⟩, 
                  ⟨some 61, .load true 4 (.t 60), none⟩, 
                  ⟨some 62, .call 44 [.t 56, .t 61], none⟩, 
                  ⟨some 7, .move (.t 62), none⟩] true)
              (.seq
                (.ops [⟨some 63, .move (.t 7), none⟩, 
                    ⟨some 64, .bin .neq (.t 63) (.c (.int .i64 0)), none⟩] false)
                (.cond (.t 64)
                  (.seq
                    (.ops [⟨some 65, .move (.t 7), none⟩, 
                        ⟨some 4, .move (.t 65), none⟩] false)
                    (.ret))
                  (.skip))))))
        (.ops [⟨some 66, .bin .add (.t 49) (.c (.int .i64 1)), none⟩, 
            ⟨some 49, .move (.t 66), none⟩] false)))

def L13_1 : AC :=
  .seq
    (.ops [⟨some 81, .bin .lss (.t 80) (.t 79), none⟩] false)
    (.seq
      (.cond (.t 81)
        (.skip)
        (.exit 2))
      (.seq
        (.block 3
          (.seq
            (.ops [⟨some 82, .move (.t 80), none⟩, 
                ⟨some 9, .move (.t 82), none⟩] false)
            (.seq
              (.ops [⟨some 83, .fieldA 4 (.t 2), none⟩, 
                  ⟨some 84, .load false 1 (.t 83), none⟩, 
                  ⟨some 85, .move (.t 9), none⟩, 
                  ⟨some 86, .idxA 5 (.t 84) (.t 85), none⟩, 
                  ⟨some 87, .load true 5 (.t 86), none⟩, 
                  ⟨some 88, .fieldA 4 (.t 3), none⟩, 
                  ⟨some 89, .load false 1 (.t 88), none⟩, 
                  ⟨some 90, .move (.t 9), none⟩, 
                  ⟨some 91, .idxA 5 (.t 89) (.t 90), none⟩, 
                  ⟨some 92, .load true 5 (.t 91), none⟩, 
                  ⟨some 93, .call 13 [.t 87, .t 92], none⟩, 
                  ⟨some 10, .move (.t 93), none⟩] true)
              (.seq
                (.ops [⟨some 94, .move (.t 10), none⟩, 
                    ⟨some 95, .bin .neq (.t 94) (.c (.int .i64 0)), none⟩] false)
                (.cond (.t 95)
                  (.seq
                    (.ops [⟨some 96, .move (.t 10), none⟩, 
                        ⟨some 4, .move (.t 96), none⟩] false)
                    (.ret))
                  (.skip))))))
        (.ops [⟨some 97, .bin .add (.t 80) (.c (.int .i64 1)), none⟩, 
            ⟨some 80, .move (.t 97), none⟩] false)))
def F13 : AF :=
  { ntmps := 98, results := [.tmp 4], pure := true, body :=
    .seq
      (.ops [⟨some 2, .box 25 (.t 0), none⟩, 
          ⟨some 3, .box 25 (.t 1), none⟩, 
          ⟨some 4, .move (.c (.int .i64 0)), none⟩] false)
      (.seq
        (.ops [⟨some 11, .fieldA 0 (.t 2), none⟩, 
            ⟨some 12, .load false 1 (.t 11), none⟩, 
            ⟨some 13, .fieldA 0 (.t 3), none⟩, 
            ⟨some 14, .load false 1 (.t 13), none⟩, 
            ⟨some 15, .call 40 [.t 12, .t 14], none⟩, 
            ⟨some 5, .move (.t 15), none⟩] false)
        (.seq
          (.seq
            (.ops [⟨some 16, .move (.t 5), none⟩, 
                ⟨some 17, .bin .eql (.t 16) (.c (.int .i64 0)), none⟩, 
                ⟨some 18, .move (.t 17), none⟩, 
                ⟨some 19, .load true 5 (.t 2), some (18, true)⟩, 
                ⟨some 20, .call 41 [.t 19], some (18, true)⟩, 
                ⟨some 21, .not (.t 20), some (18, true)⟩, 
                ⟨some 22, .pick (.t 18) (.t 21) (.c (.bool false)), none⟩] false)
            (.cond (.t 22)
              (.ops [⟨some 23, .fieldA 1 (.t 2), none⟩, 
                  ⟨some 24, .load false 1 (.t 23), none⟩, 
                  ⟨some 25, .fieldA 1 (.t 3), none⟩, 
                  ⟨some 26, .load false 1 (.t 25), none⟩, 
                  ⟨some 27, .call 42 [.t 24, .t 26], none⟩, 
                  ⟨some 5, .move (.t 27), none⟩] false)
              (.skip)))
          (.seq
            (.ops [⟨some 28, .move (.t 5), none⟩, 
                ⟨some 29, .fieldA 2 (.t 2), none⟩, 
                ⟨some 30, .load false 1 (.t 29), none⟩, 
                ⟨some 31, .fieldA 2 (.t 3), none⟩, 
                ⟨some 32, .load false 1 (.t 31), none⟩, 
                ⟨some 33, .call 42 [.t 30, .t 32], none⟩, 
                ⟨some 34, .fieldA 3 (.t 2), none⟩, 
                ⟨some 35, .load false 1 (.t 34), none⟩, 
                ⟨some 36, .len (.t 35), none⟩, 
                ⟨some 37, .fieldA 3 (.t 3), none⟩, 
                ⟨some 38, .load false 1 (.t 37), none⟩, 
                ⟨some 39, .len (.t 38), none⟩, 
                ⟨some 40, .call 40 [.t 36, .t 39], none⟩, 
                ⟨some 41, .buildSl 1 [.int .i64 0] 3 [(0, .t 28), (1, .t 33), (2, .t 40)], none⟩, 
                ⟨some 42, .call 43 [.t 41], none⟩, 
                ⟨some 5, .move (.t 42), none⟩] true)
            (.seq
              (.seq
                (.ops [⟨some 43, .move (.t 5), none⟩, 
                    ⟨some 44, .bin .neq (.t 43) (.c (.int .i64 0)), none⟩] false)
                (.cond (.t 44)
                  (.seq
                    (.ops [⟨some 45, .move (.t 5), none⟩, 
                        ⟨some 4, .move (.t 45), none⟩] false)
                    (.ret))
                  (.skip)))
              (.seq
                (.seq
                  (.ops [⟨some 46, .fieldA 3 (.t 2), none⟩, 
                      ⟨some 47, .load false 1 (.t 46), none⟩, 
                      ⟨some 48, .len (.t 47), none⟩, 
                      ⟨some 49, .move (.c (.int .i64 0)), none⟩] false)
                  (.block 0
                    (.loop L13_0)))
                (.seq
                  (.seq
                    (.ops [⟨some 67, .fieldA 4 (.t 2), none⟩, 
                        ⟨some 68, .load false 1 (.t 67), none⟩, 
                        ⟨some 69, .len (.t 68), none⟩, 
                        ⟨some 70, .fieldA 4 (.t 3), none⟩, 
                        ⟨some 71, .load false 1 (.t 70), none⟩, 
                        ⟨some 72, .len (.t 71), none⟩, 
                        ⟨some 73, .call 40 [.t 69, .t 72], none⟩, 
                        ⟨some 8, .move (.t 73), none⟩] false)
                    (.seq
                      (.ops [⟨some 74, .move (.t 8), none⟩, 
                          ⟨some 75, .bin .neq (.t 74) (.c (.int .i64 0)), none⟩] false)
                      (.cond (.t 75)
                        (.seq
                          (.ops [⟨some 76, .move (.t 8), none⟩, 
                              ⟨some 4, .move (.t 76), none⟩] false)
                          (.ret))
                        (.skip))))
                  (.seq
                    (.seq
                      (.ops [⟨some 77, .fieldA 4 (.t 2), none⟩, 
                          ⟨some 78, .load false 1 (.t 77), none⟩, 
                          ⟨some 79, .len (.t 78), none⟩, 
                          ⟨some 80, .move (.c (.int .i64 0)), none⟩] false)
                      (.block 2
                        (.loop L13_1)))
                    (.seq
                      (.ops [⟨some 4, .move (.c (.int .i64 0)), none⟩] false)
                      (.ret))))))))) }

/- sequitur/sequiturref08.Compare -/
def L14_0 : AC :=
  .seq
    (.seq
      (.ops [⟨some 46, .move (.t 6), none⟩, 
          ⟨some 47, .fieldA 3 (.t 2), none⟩, 
          ⟨some 48, .load false 1 (.t 47), none⟩, 
          ⟨some 49, .len (.t 48), none⟩, 
          ⟨some 50, .bin .lss (.t 46) (.t 49), none⟩, 
          ⟨some 51, .move (.t 50), none⟩, 
          ⟨some 52, .move (.t 5), some (51, true)⟩, 
          ⟨some 53, .bin .eql (.t 52) (.c (.int .i64 0)), some (51, true)⟩, 
          ⟨some 54, .pick (.t 51) (.t 53) (.c (.bool false)), none⟩] false)
      (.cond (.t 54)
        (.skip)
        (.exit 0)))
    (.seq
      (.block 1
        (.ops [⟨some 57, .fieldA 3 (.t 2), none⟩, 
            ⟨some 58, .load false 1 (.t 57), none⟩, 
            ⟨some 59, .move (.t 6), none⟩, 
            ⟨some 60, .idxA 4 (.t 58) (.t 59), none⟩, 
            ⟨some 61, .load true 4 (.t 60), none⟩, 
            ⟨some 62, .fieldA 3 (.t 3), none⟩, 
            ⟨some 63, .load false 1 (.t 62), none⟩, 
            ⟨some 64, .move (.t 6), none⟩, 
            ⟨some 65, .idxA 4 (.t 63) (.t 64), none⟩, 
            ⟨some 66, .load true 4 (.t 65), none⟩, 
            ⟨some 67, .call 47 [.t 61, .t 66], none⟩, 
            ⟨some 5, .move (.t 67), none⟩] true))
      (.ops [⟨some 55, .move (.t 6), none⟩, 
          ⟨some 56, .bin .add (.t 55) (.c (.int .i64 1)), none⟩, 
          ⟨some 6, .move (.t 56), none⟩] false))

def L14_1 : AC :=
  .seq
    (.seq
      (.ops [⟨some 77, .move (.t 7), none⟩, 
          ⟨some 78, .fieldA 4 (.t 2), none⟩, 
          ⟨some 79, .load false 1 (.t 78), none⟩, 
          ⟨some 80, .len (.t 79), none⟩, 
          ⟨some 81, .bin .lss (.t 77) (.t 80), none⟩, 
          ⟨some 82, .move (.t 81), none⟩, 
          ⟨some 83, .move (.t 5), some (82, true)⟩, 
          ⟨some 84, .bin .eql (.t 83) (.c (.int .i64 0)), some (82, true)⟩, 
          ⟨some 85, .pick (.t 82) (.t 84) (.c (.bool false)), none⟩] false)
      (.cond (.t 85)
        (.skip)
        (.exit 2)))
    (.seq
      (.block 3
        (.ops [⟨some 88, .fieldA 4 (.t 2), none⟩, 
            ⟨some 89, .load false 1 (.t 88), none⟩, 
            ⟨some 90, .move (.t 7), none⟩, 
            ⟨some 91, .idxA 5 (.t 89) (.t 90), none⟩, 
            ⟨some 92, .load true 5 (.t 91), none⟩, 
            ⟨some 93, .fieldA 4 (.t 3), none⟩, 
            ⟨some 94, .load false 1 (.t 93), none⟩, 
            ⟨some 95, .move (.t 7), none⟩, 
            ⟨some 96, .idxA 5 (.t 94) (.t 95), none⟩, 
            ⟨some 97, .load true 5 (.t 96), none⟩, 
            ⟨some 98, .call 14 [.t 92, .t 97], none⟩, 
            ⟨some 5, .move (.t 98), none⟩] true))
      (.ops [⟨some 86, .move (.t 7), none⟩, 
          ⟨some 87, .bin .add (.t 86) (.c (.int .i64 1)), none⟩, 
          ⟨some 7, .move (.t 87), none⟩] false))
def F14 : AF :=
  { ntmps := 100, results := [.tmp 4], pure := true, body :=
    .seq
      (.ops [⟨some 2, .box 25 (.t 0), none⟩, 
          ⟨some 3, .box 25 (.t 1), none⟩, 
          ⟨some 4, .move (.c (.int .i64 0)), none⟩] false)
      (.seq
        (.ops [⟨some 8, .fieldA 0 (.t 2), none⟩, 
            ⟨some 9, .load false 1 (.t 8), none⟩, 
            ⟨some 10, .fieldA 0 (.t 3), none⟩, 
            ⟨some 11, .load false 1 (.t 10), none⟩, 
            ⟨some 12, .call 45 [.t 9, .t 11], none⟩, 
            ⟨some 5, .move (.t 12), none⟩] false)
        (.seq
          (.seq
            (.ops [⟨some 13, .move (.t 5), none⟩, 
                ⟨some 14, .bin .eql (.t 13) (.c (.int .i64 0)), none⟩, 
                ⟨some 15, .move (.t 14), none⟩, 
                ⟨some 16, .fieldA 0 (.t 2), some (15, true)⟩, 
                ⟨some 17, .load false 1 (.t 16), some (15, true)⟩, 
                ⟨some 18, .bin .neq (.t 17) (.c (.int .i64 11)), some (15, true)⟩, 
                ⟨some 19, .pick (.t 15) (.t 18) (.c (.bool false)), none⟩, 
                ⟨some 20, .move (.t 19), none⟩, 
                ⟨some 21, .fieldA 0 (.t 2), some (20, true)⟩, 
                ⟨some 22, .load false 1 (.t 21), some (20, true)⟩, 
                ⟨some 23, .bin .neq (.t 22) (.c (.int .i64 12)), some (20, true)⟩, 
                ⟨some 24, .pick (.t 20) (.t 23) (.c (.bool false)), none⟩] false)
            (.cond (.t 24)
              (.ops [⟨some 25, .fieldA 1 (.t 2), none⟩, 
                  ⟨some 26, .load false 1 (.t 25), none⟩, 
                  ⟨some 27, .fieldA 1 (.t 3), none⟩, 
                  ⟨some 28, .load false 1 (.t 27), none⟩, 
                  ⟨some 29, .call 46 [.t 26, .t 28], none⟩, 
                  ⟨some 5, .move (.t 29), none⟩] false)
              (.skip)))
          (.seq
            (.seq
              (.ops [⟨some 30, .move (.t 5), none⟩, 
                  ⟨some 31, .bin .eql (.t 30) (.c (.int .i64 0)), none⟩] false)
              (.cond (.t 31)
                (.ops [⟨some 32, .fieldA 2 (.t 2), none⟩, 
                    ⟨some 33, .load false 1 (.t 32), none⟩, 
                    ⟨some 34, .fieldA 2 (.t 3), none⟩, 
                    ⟨some 35, .load false 1 (.t 34), none⟩, 
                    ⟨some 36, .call 46 [.t 33, .t 35], none⟩, 
                    ⟨some 5, .move (.t 36), none⟩] false)
                (.skip)))
            (.seq
              (.seq
                (.ops [⟨some 37, .move (.t 5), none⟩, 
                    ⟨some 38, .bin .eql (.t 37) (.c (.int .i64 0)), none⟩] false)
                (.cond (.t 38)
                  (.ops [⟨some 39, .fieldA 3 (.t 2), none⟩, 
                      ⟨some 40, .load false 1 (.t 39), none⟩, 
                      ⟨some 41, .len (.t 40), none⟩, 
                      ⟨some 42, .fieldA 3 (.t 3), none⟩, 
                      ⟨some 43, .load false 1 (.t 42), none⟩, 
                      ⟨some 44, .len (.t 43), none⟩, 
                      ⟨some 45, .call 45 [.t 41, .t 44], none⟩, 
                      ⟨some 5, .move (.t 45), none⟩] false)
                  (.skip)))
              (.seq
                (.seq
                  (.ops [⟨some 6, .move (.c (.int .i64 0)), none⟩] false)
                  (.block 0
                    (.loop L14_0)))
                (.seq
                  (.seq
                    (.ops [⟨some 68, .move (.t 5), none⟩, 
                        ⟨some 69, .bin .eql (.t 68) (.c (.int .i64 0)), none⟩] false)
                    (.cond (.t 69)
                      (.ops [⟨some 70, .fieldA 4 (.t 2), none⟩, 
                          ⟨some 71, .load false 1 (.t 70), none⟩, 
                          ⟨some 72, .len (.t 71), none⟩, 
                          ⟨some 73, .fieldA 4 (.t 3), none⟩, 
                          ⟨some 74, .load false 1 (.t 73), none⟩, 
                          ⟨some 75, .len (.t 74), none⟩, 
                          ⟨some 76, .call 45 [.t 72, .t 75], none⟩, 
                          ⟨some 5, .move (.t 76), none⟩] false)
                      (.skip)))
                  (.seq
                    (.seq
                      (.ops [⟨some 7, .move (.c (.int .i64 0)), none⟩] false)
                      (.block 2
                        (.loop L14_1)))
                    (.seq
                      (.ops [⟨some 99, .move (.t 5), none⟩, 
                          ⟨some 4, .move (.t 99), none⟩] false)
                      (.ret))))))))) }

/- sequitur/sequiturlaw08.Few -/
def L15_0 : AC :=
  .seq
    (.ops [⟨some 14, .bin .lss (.t 13) (.t 12), none⟩] false)
    (.seq
      (.cond (.t 14)
        (.skip)
        (.exit 0))
      (.seq
        (.block 1
          (.seq
            (.ops [⟨some 15, .idxA 5 (.t 11) (.t 13), none⟩, 
                ⟨some 16, .load true 5 (.t 15), none⟩, 
                ⟨some 6, .alloc 25 [.int .i64 0, .str ⟨#[]⟩, .str ⟨#[]⟩, .fsl 4 [], .fsl 5 []], none⟩, 
                ⟨none, .store 5 (.t 6) (.t 16), none⟩] false)
            (.seq
              (.ops [⟨some 17, .load true 5 (.t 6), none⟩, 
                  ⟨some 18, .move (.t 1), none⟩, 
                  ⟨some 19, .call 9 [.t 17, .t 18], none⟩] false)
              (.cond (.t 19)
                (.seq
                  (.ops [⟨some 4, .move (.c (.bool false)), none⟩] false)
                  (.ret))
                (.skip)))))
        (.ops [⟨some 20, .bin .add (.t 13) (.c (.int .i64 1)), none⟩, 
            ⟨some 13, .move (.t 20), none⟩] false)))
def F15 : AF :=
  { ntmps := 21, results := [.tmp 4], pure := true, body :=
    .seq
      (.ops [⟨some 4, .move (.c (.bool false)), none⟩] false)
      (.seq
        (.seq
          (.ops [⟨some 7, .move (.t 0), none⟩, 
              ⟨some 8, .len (.t 7), none⟩, 
              ⟨some 9, .move (.t 1), none⟩, 
              ⟨some 10, .bin .gtr (.t 8) (.t 9), none⟩] false)
          (.cond (.t 10)
            (.seq
              (.ops [⟨some 4, .move (.c (.bool false)), none⟩] false)
              (.ret))
            (.skip)))
        (.seq
          (.seq
            (.ops [⟨some 11, .move (.t 0), none⟩, 
                ⟨some 12, .len (.t 11), none⟩, 
                ⟨some 13, .move (.c (.int .i64 0)), none⟩] false)
            (.block 0
              (.loop L15_0)))
          (.seq
            (.ops [⟨some 4, .move (.c (.bool true)), none⟩] false)
            (.ret)))) }

/- sequitur/sequiturbase.Exact -/
def F16 : AF :=
  { ntmps := 38, results := [.tmp 4], pure := true, body :=
    .seq
      (.ops [⟨some 2, .box 25 (.t 0), none⟩, 
          ⟨some 3, .box 25 (.t 1), none⟩, 
          ⟨some 4, .move (.c (.bool false)), none⟩] false)
      (.seq
        (.ops [⟨some 5, .fieldA 0 (.t 2), none⟩, 
            ⟨some 6, .load false 1 (.t 5), none⟩, 
            ⟨some 7, .fieldA 0 (.t 3), none⟩, 
            ⟨some 8, .load false 1 (.t 7), none⟩, 
            ⟨some 9, .bin .eql (.t 6) (.t 8), none⟩, 
            ⟨some 10, .move (.t 9), none⟩, 
            ⟨some 11, .fieldA 2 (.t 2), some (10, true)⟩, 
            ⟨some 12, .load false 1 (.t 11), some (10, true)⟩, 
            ⟨some 13, .fieldA 2 (.t 3), some (10, true)⟩, 
            ⟨some 14, .load false 1 (.t 13), some (10, true)⟩, 
            ⟨some 15, .bin .eql (.t 12) (.t 14), some (10, true)⟩, 
            ⟨some 16, .pick (.t 10) (.t 15) (.c (.bool false)), none⟩, 
            ⟨some 17, .move (.t 16), none⟩, 
            ⟨some 18, .fieldA 1 (.t 2), some (17, true)⟩, 
            ⟨some 19, .load false 1 (.t 18), some (17, true)⟩, 
            ⟨some 20, .fieldA 1 (.t 3), some (17, true)⟩, 
            ⟨some 21, .load false 1 (.t 20), some (17, true)⟩, 
            ⟨some 22, .bin .eql (.t 19) (.t 21), some (17, true)⟩, 
            ⟨some 23, .pick (.t 17) (.t 22) (.c (.bool false)), none⟩, 
            ⟨some 24, .move (.t 23), none⟩, 
            ⟨some 25, .fieldA 3 (.t 2), some (24, true)⟩, 
            ⟨some 26, .load false 1 (.t 25), some (24, true)⟩, 
            ⟨some 27, .fieldA 3 (.t 3), some (24, true)⟩, 
            ⟨some 28, .load false 1 (.t 27), some (24, true)⟩, 
            ⟨some 29, .call 32 [.t 26, .t 28], some (24, true)⟩, 
            ⟨some 30, .pick (.t 24) (.t 29) (.c (.bool false)), none⟩, 
            ⟨some 31, .move (.t 30), none⟩, 
            ⟨some 32, .fieldA 4 (.t 2), some (31, true)⟩, 
            ⟨some 33, .load false 1 (.t 32), some (31, true)⟩, 
            ⟨some 34, .fieldA 4 (.t 3), some (31, true)⟩, 
            ⟨some 35, .load false 1 (.t 34), some (31, true)⟩, 
            ⟨some 36, .call 48 [.t 33, .t 35], some (31, true)⟩, 
            ⟨some 37, .pick (.t 31) (.t 36) (.c (.bool false)), none⟩, 
            ⟨some 4, .move (.t 37), none⟩] false)
        (.ret)) }

/- sequitur/claim.Not -/
def F17 : AF :=
  { ntmps := 6, results := [.cell 2 true 5], pure := true, body :=
    .seq
      (.ops [⟨some 1, .box 25 (.t 0), none⟩, 
          ⟨some 2, .alloc 25 [.int .i64 0, .str ⟨#[]⟩, .str ⟨#[]⟩, .fsl 4 [], .fsl 5 []], none⟩] false)
      (.seq
        (.ops [⟨some 3, .load true 5 (.t 1), none⟩, 
            ⟨some 4, .buildSl 5 [.int .i64 0, .str ⟨#[]⟩, .str ⟨#[]⟩, .fsl 4 [], .fsl 5 []] 1 [(0, .t 3)], none⟩, 
            ⟨some 5, .build [.int .i64 0, .str ⟨#[]⟩, .str ⟨#[]⟩, .fsl 4 [], .fsl 5 []] [(0, 1, .c (.int .i64 6)), (4, 1, .t 4)], none⟩, 
            ⟨none, .store 5 (.t 2) (.t 5), none⟩] false)
        (.ret)) }

/- sequitur/sequiturref08.Not -/
def F18 : AF :=
  { ntmps := 6, results := [.cell 2 true 5], pure := true, body :=
    .seq
      (.ops [⟨some 1, .box 25 (.t 0), none⟩, 
          ⟨some 2, .alloc 25 [.int .i64 0, .str ⟨#[]⟩, .str ⟨#[]⟩, .fsl 4 [], .fsl 5 []], none⟩] false)
      (.seq
        (.ops [⟨some 3, .load true 5 (.t 1), none⟩, 
            ⟨some 4, .buildSl 5 [.int .i64 0, .str ⟨#[]⟩, .str ⟨#[]⟩, .fsl 4 [], .fsl 5 []] 1 [(0, .t 3)], none⟩, 
            ⟨some 5, .build [.int .i64 0, .str ⟨#[]⟩, .str ⟨#[]⟩, .fsl 4 [], .fsl 5 []] [(0, 1, .c (.int .i64 6)), (4, 1, .t 4)], none⟩, 
            ⟨none, .store 5 (.t 2) (.t 5), none⟩] false)
        (.ret)) }

/- sequitur/claim.And -/
def F19 : AF :=
  { ntmps := 5, results := [.cell 2 true 5], pure := true, body :=
    .seq
      (.ops [⟨some 2, .alloc 25 [.int .i64 0, .str ⟨#[]⟩, .str ⟨#[]⟩, .fsl 4 [], .fsl 5 []], none⟩] false)
      (.seq
        (.ops [⟨some 3, .move (.t 0), none⟩, 
            ⟨some 4, .call 49 [.c (.int .i64 7), .c (.int .i64 1), .t 3], none⟩, 
            ⟨none, .store 5 (.t 2) (.t 4), none⟩] false)
        (.ret)) }

/- sequitur/sequiturref08.Join -/
def F20 : AF :=
  { ntmps := 33, results := [.cell 4 true 5], pure := true, body :=
    .seq
      (.ops [⟨some 4, .alloc 25 [.int .i64 0, .str ⟨#[]⟩, .str ⟨#[]⟩, .fsl 4 [], .fsl 5 []], none⟩] false)
      (.seq
        (.seq
          (.ops [⟨some 5, .move (.t 1), none⟩, 
              ⟨some 6, .len (.t 5), none⟩, 
              ⟨some 7, .bin .eql (.t 6) (.c (.int .i64 0)), none⟩, 
              ⟨some 8, .move (.t 7), none⟩, 
              ⟨some 9, .move (.t 0), some (8, true)⟩, 
              ⟨some 10, .bin .eql (.t 9) (.c (.int .i64 7)), some (8, true)⟩, 
              ⟨some 11, .pick (.t 8) (.t 10) (.c (.bool false)), none⟩] false)
          (.cond (.t 11)
            (.seq
              (.ops [⟨some 12, .build [.int .i64 0, .str ⟨#[]⟩, .str ⟨#[]⟩, .fsl 4 [], .fsl 5 []] [(0, 1, .c (.int .i64 1))], none⟩, 
                  ⟨none, .store 5 (.t 4) (.t 12), none⟩] false)
              (.ret))
            (.skip)))
        (.seq
          (.seq
            (.ops [⟨some 13, .move (.t 1), none⟩, 
                ⟨some 14, .len (.t 13), none⟩, 
                ⟨some 15, .bin .eql (.t 14) (.c (.int .i64 0)), none⟩] false)
            (.cond (.t 15)
              (.seq
                (.ops [⟨some 16, .build [.int .i64 0, .str ⟨#[]⟩, .str ⟨#[]⟩, .fsl 4 [], .fsl 5 []] [(0, 1, .c (.int .i64 2))], none⟩, 
                    ⟨none, .store 5 (.t 4) (.t 16), none⟩] false)
                (.ret))
              (.skip)))
          (.seq
            (.seq
              (.ops [⟨some 17, .move (.t 1), none⟩, 
                  ⟨some 18, .len (.t 17), none⟩, 
                  ⟨some 19, .bin .eql (.t 18) (.c (.int .i64 1)), none⟩] false)
              (.cond (.t 19)
                (.seq
                  (.ops [⟨some 20, .move (.t 1), none⟩, 
                      ⟨some 21, .idxA 5 (.t 20) (.c (.int .i64 0)), none⟩, 
                      ⟨some 22, .load true 5 (.t 21), none⟩, 
                      ⟨none, .store 5 (.t 4) (.t 22), none⟩] false)
                  (.ret))
                (.skip)))
            (.seq
              (.ops [⟨some 23, .move (.t 0), none⟩, 
                  ⟨some 24, .move (.t 1), none⟩, 
                  ⟨some 25, .idxA 5 (.t 24) (.c (.int .i64 0)), none⟩, 
                  ⟨some 26, .load true 5 (.t 25), none⟩, 
                  ⟨some 27, .move (.t 0), none⟩, 
                  ⟨some 28, .move (.t 1), none⟩, 
                  ⟨some 29, .slice 5 (.t 28) (some (.c (.int .i64 1))) none none, none⟩, 
                  ⟨some 30, .call 20 [.t 27, .t 29], none⟩, 
                  ⟨some 31, .buildSl 5 [.int .i64 0, .str ⟨#[]⟩, .str ⟨#[]⟩, .fsl 4 [], .fsl 5 []] 2 [(0, .t 26), (1, .t 30)], none⟩, 
                  ⟨some 32, .build [.int .i64 0, .str ⟨#[]⟩, .str ⟨#[]⟩, .fsl 4 [], .fsl 5 []] [(0, 1, .t 23), (4, 1, .t 31)], none⟩, 
                  ⟨none, .store 5 (.t 4) (.t 32), none⟩] true)
              (.ret))))) }

/- sequitur/claim.Or -/
def F21 : AF :=
  { ntmps := 5, results := [.cell 2 true 5], pure := true, body :=
    .seq
      (.ops [⟨some 2, .alloc 25 [.int .i64 0, .str ⟨#[]⟩, .str ⟨#[]⟩, .fsl 4 [], .fsl 5 []], none⟩] false)
      (.seq
        (.ops [⟨some 3, .move (.t 0), none⟩, 
            ⟨some 4, .call 49 [.c (.int .i64 8), .c (.int .i64 2), .t 3], none⟩, 
            ⟨none, .store 5 (.t 2) (.t 4), none⟩] false)
        (.ret)) }

/- sequitur/sequiturref08.Exacts -/
def L22_0 : AC :=
  .seq
    (.seq
      (.ops [⟨some 11, .move (.t 5), none⟩, 
          ⟨some 12, .move (.t 0), none⟩, 
          ⟨some 13, .len (.t 12), none⟩, 
          ⟨some 14, .bin .lss (.t 11) (.t 13), none⟩] false)
      (.cond (.t 14)
        (.skip)
        (.exit 0)))
    (.seq
      (.block 1
        (.seq
          (.ops [⟨some 17, .move (.t 0), none⟩, 
              ⟨some 18, .move (.t 5), none⟩, 
              ⟨some 19, .idxA 5 (.t 17) (.t 18), none⟩, 
              ⟨some 20, .load true 5 (.t 19), none⟩, 
              ⟨some 21, .move (.t 1), none⟩, 
              ⟨some 22, .move (.t 5), none⟩, 
              ⟨some 23, .idxA 5 (.t 21) (.t 22), none⟩, 
              ⟨some 24, .load true 5 (.t 23), none⟩, 
              ⟨some 25, .call 16 [.t 20, .t 24], none⟩, 
              ⟨some 26, .not (.t 25), none⟩] true)
          (.cond (.t 26)
            (.seq
              (.ops [⟨some 4, .move (.c (.bool false)), none⟩] false)
              (.ret))
            (.skip))))
      (.ops [⟨some 15, .move (.t 5), none⟩, 
          ⟨some 16, .bin .add (.t 15) (.c (.int .i64 1)), none⟩, 
          ⟨some 5, .move (.t 16), none⟩] false))
def F22 : AF :=
  { ntmps := 27, results := [.tmp 4], pure := true, body :=
    .seq
      (.ops [⟨some 4, .move (.c (.bool false)), none⟩] false)
      (.seq
        (.seq
          (.ops [⟨some 6, .move (.t 0), none⟩, 
              ⟨some 7, .len (.t 6), none⟩, 
              ⟨some 8, .move (.t 1), none⟩, 
              ⟨some 9, .len (.t 8), none⟩, 
              ⟨some 10, .bin .neq (.t 7) (.t 9), none⟩] false)
          (.cond (.t 10)
            (.seq
              (.ops [⟨some 4, .move (.c (.bool false)), none⟩] false)
              (.ret))
            (.skip)))
        (.seq
          (.seq
            (.ops [⟨some 5, .move (.c (.int .i64 0)), none⟩] false)
            (.block 0
              (.loop L22_0)))
          (.seq
            (.ops [⟨some 4, .move (.c (.bool true)), none⟩] false)
            (.ret)))) }

/- sequitur/claim.Flat -/
def L23_0 : AC :=
  .seq
    (.ops [⟨some 26, .bin .lss (.t 25) (.t 24), none⟩] false)
    (.seq
      (.cond (.t 26)
        (.skip)
        (.exit 0))
      (.seq
        (.block 1
          (.seq
            (.ops [⟨some 27, .idxA 5 (.t 23) (.t 25), none⟩, 
                ⟨some 28, .load true 5 (.t 27), none⟩, 
                ⟨some 7, .alloc 25 [.int .i64 0, .str ⟨#[]⟩, .str ⟨#[]⟩, .fsl 4 [], .fsl 5 []], none⟩, 
                ⟨none, .store 5 (.t 7) (.t 28), none⟩] false)
            (.ops [⟨some 29, .move (.t 5), none⟩, 
                ⟨some 30, .load true 5 (.t 7), none⟩, 
                ⟨some 31, .move (.t 1), none⟩, 
                ⟨some 32, .call 23 [.t 30, .t 31], none⟩, 
                ⟨some 33, .append 25 5 88 (.t 29) (.t 32), none⟩, 
                ⟨some 5, .move (.t 33), none⟩] false)))
        (.ops [⟨some 34, .bin .add (.t 25) (.c (.int .i64 1)), none⟩, 
            ⟨some 25, .move (.t 34), none⟩] false)))
def F23 : AF :=
  { ntmps := 36, results := [.tmp 4], pure := true, body :=
    .seq
      (.ops [⟨some 2, .box 25 (.t 0), none⟩, 
          ⟨some 4, .move (.c (.fsl 5 [])), none⟩] false)
      (.seq
        (.seq
          (.ops [⟨some 8, .fieldA 0 (.t 2), none⟩, 
              ⟨some 9, .load false 1 (.t 8), none⟩, 
              ⟨some 10, .move (.t 1), none⟩, 
              ⟨some 11, .bin .neq (.t 9) (.t 10), none⟩, 
              ⟨some 12, .move (.t 11), none⟩, 
              ⟨some 13, .move (.t 1), some (12, false)⟩, 
              ⟨some 14, .bin .neq (.t 13) (.c (.int .i64 7)), some (12, false)⟩, 
              ⟨some 15, .move (.t 14), some (12, false)⟩, 
              ⟨some 16, .move (.t 1), some (15, true)⟩, 
              ⟨some 17, .bin .neq (.t 16) (.c (.int .i64 8)), some (15, true)⟩, 
              ⟨some 18, .pick (.t 15) (.t 17) (.c (.bool false)), some (12, false)⟩, 
              ⟨some 19, .pick (.t 12) (.c (.bool true)) (.t 18), none⟩] false)
          (.cond (.t 19)
            (.seq
              (.ops [⟨some 20, .load true 5 (.t 2), none⟩, 
                  ⟨some 21, .buildSl 5 [.int .i64 0, .str ⟨#[]⟩, .str ⟨#[]⟩, .fsl 4 [], .fsl 5 []] 1 [(0, .t 20)], none⟩, 
                  ⟨some 4, .move (.t 21), none⟩] false)
              (.ret))
            (.skip)))
        (.seq
          (.ops [⟨some 5, .move (.c (.fsl 5 [])), none⟩] false)
          (.seq
            (.seq
              (.ops [⟨some 22, .fieldA 4 (.t 2), none⟩, 
                  ⟨some 23, .load false 1 (.t 22), none⟩, 
                  ⟨some 24, .len (.t 23), none⟩, 
                  ⟨some 25, .move (.c (.int .i64 0)), none⟩] false)
              (.block 0
                (.loop L23_0)))
            (.seq
              (.ops [⟨some 35, .move (.t 5), none⟩, 
                  ⟨some 4, .move (.t 35), none⟩] false)
              (.ret))))) }

/- sequitur/sequiturref08.Flat -/
def L24_0 : AC :=
  .seq
    (.seq
      (.ops [⟨some 21, .move (.t 6), none⟩, 
          ⟨some 22, .fieldA 4 (.t 2), none⟩, 
          ⟨some 23, .load false 1 (.t 22), none⟩, 
          ⟨some 24, .len (.t 23), none⟩, 
          ⟨some 25, .bin .lss (.t 21) (.t 24), none⟩] false)
      (.cond (.t 25)
        (.skip)
        (.exit 0)))
    (.seq
      (.block 1
        (.ops [⟨some 28, .move (.t 5), none⟩, 
            ⟨some 29, .fieldA 4 (.t 2), none⟩, 
            ⟨some 30, .load false 1 (.t 29), none⟩, 
            ⟨some 31, .move (.t 6), none⟩, 
            ⟨some 32, .idxA 5 (.t 30) (.t 31), none⟩, 
            ⟨some 33, .load true 5 (.t 32), none⟩, 
            ⟨some 34, .move (.t 1), none⟩, 
            ⟨some 35, .call 24 [.t 33, .t 34], none⟩, 
            ⟨some 36, .append 25 5 88 (.t 28) (.t 35), none⟩, 
            ⟨some 5, .move (.t 36), none⟩] false))
      (.ops [⟨some 26, .move (.t 6), none⟩, 
          ⟨some 27, .bin .add (.t 26) (.c (.int .i64 1)), none⟩, 
          ⟨some 6, .move (.t 27), none⟩] false))
def F24 : AF :=
  { ntmps := 38, results := [.tmp 4], pure := true, body :=
    .seq
      (.ops [⟨some 2, .box 25 (.t 0), none⟩, 
          ⟨some 4, .move (.c (.fsl 5 [])), none⟩] false)
      (.seq
        (.seq
          (.ops [⟨some 7, .fieldA 0 (.t 2), none⟩, 
              ⟨some 8, .load false 1 (.t 7), none⟩, 
              ⟨some 9, .move (.t 1), none⟩, 
              ⟨some 10, .bin .neq (.t 8) (.t 9), none⟩, 
              ⟨some 11, .move (.t 10), none⟩, 
              ⟨some 12, .move (.t 1), some (11, false)⟩, 
              ⟨some 13, .bin .neq (.t 12) (.c (.int .i64 7)), some (11, false)⟩, 
              ⟨some 14, .move (.t 13), some (11, false)⟩, 
              ⟨some 15, .move (.t 1), some (14, true)⟩, 
              ⟨some 16, .bin .neq (.t 15) (.c (.int .i64 8)), some (14, true)⟩, 
              ⟨some 17, .pick (.t 14) (.t 16) (.c (.bool false)), some (11, false)⟩, 
              ⟨some 18, .pick (.t 11) (.c (.bool true)) (.t 17), none⟩] false)
          (.cond (.t 18)
            (.seq
              (.ops [⟨some 19, .load true 5 (.t 2), none⟩, 
                  ⟨some 20, .buildSl 5 [.int .i64 0, .str ⟨#[]⟩, .str ⟨#[]⟩, .fsl 4 [], .fsl 5 []] 1 [(0, .t 19)], none⟩, 
                  ⟨some 4, .move (.t 20), none⟩] false)
              (.ret))
            (.skip)))
        (.seq
          (.ops [⟨some 5, .move (.c (.fsl 5 [])), none⟩] false)
          (.seq
            (.seq
              (.ops [⟨some 6, .move (.c (.int .i64 0)), none⟩] false)
              (.block 0
                (.loop L24_0)))
            (.seq
              (.ops [⟨some 37, .move (.t 5), none⟩, 
                  ⟨some 4, .move (.t 37), none⟩] false)
              (.ret))))) }

/- sequitur/sequiturbase.Claims -/
def L28_0 : AC :=
  .seq
    (.seq
      (.ops [⟨some 11, .move (.t 5), none⟩, 
          ⟨some 12, .move (.t 0), none⟩, 
          ⟨some 13, .len (.t 12), none⟩, 
          ⟨some 14, .bin .lss (.t 11) (.t 13), none⟩] false)
      (.cond (.t 14)
        (.skip)
        (.exit 0)))
    (.seq
      (.block 1
        (.seq
          (.ops [⟨some 17, .move (.t 0), none⟩, 
              ⟨some 18, .move (.t 5), none⟩, 
              ⟨some 19, .idxA 5 (.t 17) (.t 18), none⟩, 
              ⟨some 20, .load true 5 (.t 19), none⟩, 
              ⟨some 21, .move (.t 1), none⟩, 
              ⟨some 22, .move (.t 5), none⟩, 
              ⟨some 23, .idxA 5 (.t 21) (.t 22), none⟩, 
              ⟨some 24, .load true 5 (.t 23), none⟩, 
              ⟨some 25, .call 39 [.t 20, .t 24], none⟩, 
              ⟨some 26, .not (.t 25), none⟩] true)
          (.cond (.t 26)
            (.seq
              (.ops [⟨some 4, .move (.c (.bool false)), none⟩] false)
              (.ret))
            (.skip))))
      (.ops [⟨some 15, .move (.t 5), none⟩, 
          ⟨some 16, .bin .add (.t 15) (.c (.int .i64 1)), none⟩, 
          ⟨some 5, .move (.t 16), none⟩] false))
def F28 : AF :=
  { ntmps := 27, results := [.tmp 4], pure := true, body :=
    .seq
      (.ops [⟨some 4, .move (.c (.bool false)), none⟩] false)
      (.seq
        (.seq
          (.ops [⟨some 6, .move (.t 0), none⟩, 
              ⟨some 7, .len (.t 6), none⟩, 
              ⟨some 8, .move (.t 1), none⟩, 
              ⟨some 9, .len (.t 8), none⟩, 
              ⟨some 10, .bin .neq (.t 7) (.t 9), none⟩] false)
          (.cond (.t 10)
            (.seq
              (.ops [⟨some 4, .move (.c (.bool false)), none⟩] false)
              (.ret))
            (.skip)))
        (.seq
          (.seq
            (.ops [⟨some 5, .move (.c (.int .i64 0)), none⟩] false)
            (.block 0
              (.loop L28_0)))
          (.seq
            (.ops [⟨some 4, .move (.c (.bool true)), none⟩] false)
            (.ret)))) }

/- sequitur/claim.Atoms -/
def L29_0 : AC :=
  .seq
    (.ops [⟨some 11, .bin .lss (.t 10) (.t 9), none⟩] false)
    (.seq
      (.cond (.t 11)
        (.skip)
        (.exit 0))
      (.seq
        (.block 1
          (.seq
            (.ops [⟨some 12, .idxA 5 (.t 8) (.t 10), none⟩, 
                ⟨some 13, .load true 5 (.t 12), none⟩, 
                ⟨some 6, .alloc 25 [.int .i64 0, .str ⟨#[]⟩, .str ⟨#[]⟩, .fsl 4 [], .fsl 5 []], none⟩, 
                ⟨none, .store 5 (.t 6) (.t 13), none⟩] false)
            (.ops [⟨some 14, .load false 1 (.t 4), none⟩, 
                ⟨some 15, .load true 5 (.t 6), none⟩, 
                ⟨some 16, .callv (.t 14) [.t 15], none⟩] false)))
        (.ops [⟨some 17, .bin .add (.t 10) (.c (.int .i64 1)), none⟩, 
            ⟨some 10, .move (.t 17), none⟩] false)))
def F29 : AF :=
  { ntmps := 19, results := [.tmp 2], pure := true, body :=
    .seq
      (.ops [⟨some 2, .move (.c (.fsl 5 [])), none⟩] false)
      (.seq
        (.ops [⟨some 3, .alloc 23 [.fsl 5 []], none⟩] false)
        (.seq
          (.ops [⟨some 4, .alloc 38 [.nilf], none⟩] false)
          (.seq
            (.ops [⟨some 7, .mkfn (.func 53) [] [.t 4, .t 3], none⟩, 
                ⟨none, .store 1 (.t 4) (.t 7), none⟩] false)
            (.seq
              (.seq
                (.ops [⟨some 8, .move (.t 0), none⟩, 
                    ⟨some 9, .len (.t 8), none⟩, 
                    ⟨some 10, .move (.c (.int .i64 0)), none⟩] false)
                (.block 0
                  (.loop L29_0)))
              (.seq
                (.ops [⟨some 18, .load false 1 (.t 3), none⟩, 
                    ⟨some 2, .move (.t 18), none⟩] false)
                (.ret)))))) }

/- sequitur/sequiturbase.Strings -/
def L30_0 : AC :=
  .seq
    (.seq
      (.ops [⟨some 11, .move (.t 5), none⟩, 
          ⟨some 12, .move (.t 0), none⟩, 
          ⟨some 13, .len (.t 12), none⟩, 
          ⟨some 14, .bin .lss (.t 11) (.t 13), none⟩] false)
      (.cond (.t 14)
        (.skip)
        (.exit 0)))
    (.seq
      (.block 1
        (.seq
          (.ops [⟨some 17, .move (.t 0), none⟩, 
              ⟨some 18, .move (.t 5), none⟩, 
              ⟨some 19, .idxA 1 (.t 17) (.t 18), none⟩, 
              ⟨some 20, .load false 1 (.t 19), none⟩, 
              ⟨some 21, .move (.t 1), none⟩, 
              ⟨some 22, .move (.t 5), none⟩, 
              ⟨some 23, .idxA 1 (.t 21) (.t 22), none⟩, 
              ⟨some 24, .load false 1 (.t 23), none⟩, 
              ⟨some 25, .bin .neq (.t 20) (.t 24), none⟩] true)
          (.cond (.t 25)
            (.seq
              (.ops [⟨some 4, .move (.c (.bool false)), none⟩] false)
              (.ret))
            (.skip))))
      (.ops [⟨some 15, .move (.t 5), none⟩, 
          ⟨some 16, .bin .add (.t 15) (.c (.int .i64 1)), none⟩, 
          ⟨some 5, .move (.t 16), none⟩] false))
def F30 : AF :=
  { ntmps := 26, results := [.tmp 4], pure := true, body :=
    .seq
      (.ops [⟨some 4, .move (.c (.bool false)), none⟩] false)
      (.seq
        (.seq
          (.ops [⟨some 6, .move (.t 0), none⟩, 
              ⟨some 7, .len (.t 6), none⟩, 
              ⟨some 8, .move (.t 1), none⟩, 
              ⟨some 9, .len (.t 8), none⟩, 
              ⟨some 10, .bin .neq (.t 7) (.t 9), none⟩] false)
          (.cond (.t 10)
            (.seq
              (.ops [⟨some 4, .move (.c (.bool false)), none⟩] false)
              (.ret))
            (.skip)))
        (.seq
          (.seq
            (.ops [⟨some 5, .move (.c (.int .i64 0)), none⟩] false)
            (.block 0
              (.loop L30_0)))
          (.seq
            (.ops [⟨some 4, .move (.c (.bool true)), none⟩] false)
            (.ret)))) }

/- sequitur/claim.Names -/
def L31_0 : AC :=
  .seq
    (.ops [⟨some 9, .bin .lss (.t 8) (.t 7), none⟩] false)
    (.seq
      (.cond (.t 9)
        (.skip)
        (.exit 0))
      (.seq
        (.block 1
          (.seq
            (.ops [⟨some 10, .idxA 5 (.t 6) (.t 8), none⟩, 
                ⟨some 11, .load true 5 (.t 10), none⟩, 
                ⟨some 5, .alloc 25 [.int .i64 0, .str ⟨#[]⟩, .str ⟨#[]⟩, .fsl 4 [], .fsl 5 []], none⟩, 
                ⟨none, .store 5 (.t 5) (.t 11), none⟩] false)
            (.ops [⟨some 12, .load true 5 (.t 5), none⟩, 
                ⟨some 13, .mkfn (.func 57) [] [.t 3], none⟩, 
                ⟨some 14, .call 56 [.t 12, .t 13], none⟩] false)))
        (.ops [⟨some 15, .bin .add (.t 8) (.c (.int .i64 1)), none⟩, 
            ⟨some 8, .move (.t 15), none⟩] false)))
def F31 : AF :=
  { ntmps := 18, results := [.tmp 2], pure := true, body :=
    .seq
      (.ops [⟨some 2, .move (.c (.fsl 1 [])), none⟩] false)
      (.seq
        (.ops [⟨some 3, .alloc 22 [.fsl 4 []], none⟩] false)
        (.seq
          (.seq
            (.ops [⟨some 6, .move (.t 0), none⟩, 
                ⟨some 7, .len (.t 6), none⟩, 
                ⟨some 8, .move (.c (.int .i64 0)), none⟩] false)
            (.block 0
              (.loop L31_0)))
          (.seq
            (.ops [⟨some 16, .load false 1 (.t 3), none⟩, 
                ⟨some 17, .call 58 [.t 16], none⟩, 
                ⟨some 2, .move (.t 17), none⟩] false)
            (.ret)))) }

/- sequitur/sequiturbase.Terms -/
def L32_0 : AC :=
  .seq
    (.seq
      (.ops [⟨some 11, .move (.t 5), none⟩, 
          ⟨some 12, .move (.t 0), none⟩, 
          ⟨some 13, .len (.t 12), none⟩, 
          ⟨some 14, .bin .lss (.t 11) (.t 13), none⟩] false)
      (.cond (.t 14)
        (.skip)
        (.exit 0)))
    (.seq
      (.block 1
        (.seq
          (.ops [⟨some 17, .move (.t 0), none⟩, 
              ⟨some 18, .move (.t 5), none⟩, 
              ⟨some 19, .idxA 4 (.t 17) (.t 18), none⟩, 
              ⟨some 20, .load true 4 (.t 19), none⟩, 
              ⟨some 21, .move (.t 1), none⟩, 
              ⟨some 22, .move (.t 5), none⟩, 
              ⟨some 23, .idxA 4 (.t 21) (.t 22), none⟩, 
              ⟨some 24, .load true 4 (.t 23), none⟩, 
              ⟨some 25, .call 59 [.t 20, .t 24], none⟩, 
              ⟨some 26, .not (.t 25), none⟩] true)
          (.cond (.t 26)
            (.seq
              (.ops [⟨some 4, .move (.c (.bool false)), none⟩] false)
              (.ret))
            (.skip))))
      (.ops [⟨some 15, .move (.t 5), none⟩, 
          ⟨some 16, .bin .add (.t 15) (.c (.int .i64 1)), none⟩, 
          ⟨some 5, .move (.t 16), none⟩] false))
def F32 : AF :=
  { ntmps := 27, results := [.tmp 4], pure := true, body :=
    .seq
      (.ops [⟨some 4, .move (.c (.bool false)), none⟩] false)
      (.seq
        (.seq
          (.ops [⟨some 6, .move (.t 0), none⟩, 
              ⟨some 7, .len (.t 6), none⟩, 
              ⟨some 8, .move (.t 1), none⟩, 
              ⟨some 9, .len (.t 8), none⟩, 
              ⟨some 10, .bin .neq (.t 7) (.t 9), none⟩] false)
          (.cond (.t 10)
            (.seq
              (.ops [⟨some 4, .move (.c (.bool false)), none⟩] false)
              (.ret))
            (.skip)))
        (.seq
          (.seq
            (.ops [⟨some 5, .move (.c (.int .i64 0)), none⟩] false)
            (.block 0
              (.loop L32_0)))
          (.seq
            (.ops [⟨some 4, .move (.c (.bool true)), none⟩] false)
            (.ret)))) }

/- sequitur/claim.Terms -/
def F33 : AF :=
  { ntmps := 8, results := [.tmp 2], pure := true, body :=
    .seq
      (.ops [⟨some 1, .box 25 (.t 0), none⟩, 
          ⟨some 2, .move (.c (.fsl 4 [])), none⟩] false)
      (.seq
        (.ops [⟨some 3, .alloc 22 [.fsl 4 []], none⟩] false)
        (.seq
          (.ops [⟨some 4, .load true 5 (.t 1), none⟩, 
              ⟨some 5, .mkfn (.func 60) [] [.t 3], none⟩, 
              ⟨some 6, .call 56 [.t 4, .t 5], none⟩] false)
          (.seq
            (.ops [⟨some 7, .load false 1 (.t 3), none⟩, 
                ⟨some 2, .move (.t 7), none⟩] false)
            (.ret)))) }

/- sequitur/sequiturref08.Terms -/
def F34 : AF :=
  { ntmps := 5, results := [.tmp 2], pure := true, body :=
    .seq
      (.ops [⟨some 1, .box 25 (.t 0), none⟩, 
          ⟨some 2, .move (.c (.fsl 4 [])), none⟩] false)
      (.seq
        (.ops [⟨some 3, .load true 5 (.t 1), none⟩, 
            ⟨some 4, .call 64 [.c (.fsl 4 []), .t 3], none⟩, 
            ⟨some 2, .move (.t 4), none⟩] false)
        (.ret)) }

/- sequitur/sequiturref08.Names -/
def L35_0 : AC :=
  .seq
    (.seq
      (.ops [⟨some 5, .move (.t 4), none⟩, 
          ⟨some 6, .move (.t 0), none⟩, 
          ⟨some 7, .len (.t 6), none⟩, 
          ⟨some 8, .bin .lss (.t 5) (.t 7), none⟩] false)
      (.cond (.t 8)
        (.skip)
        (.exit 0)))
    (.seq
      (.block 1
        (.ops [⟨some 11, .move (.t 3), none⟩, 
            ⟨some 12, .move (.t 0), none⟩, 
            ⟨some 13, .move (.t 4), none⟩, 
            ⟨some 14, .idxA 5 (.t 12) (.t 13), none⟩, 
            ⟨some 15, .load true 5 (.t 14), none⟩, 
            ⟨some 16, .call 65 [.t 11, .t 15], none⟩, 
            ⟨some 3, .move (.t 16), none⟩] false))
      (.ops [⟨some 9, .move (.t 4), none⟩, 
          ⟨some 10, .bin .add (.t 9) (.c (.int .i64 1)), none⟩, 
          ⟨some 4, .move (.t 10), none⟩] false))
def F35 : AF :=
  { ntmps := 18, results := [.tmp 2], pure := true, body :=
    .seq
      (.ops [⟨some 2, .move (.c (.fsl 1 [])), none⟩] false)
      (.seq
        (.ops [⟨some 3, .move (.c (.fsl 1 [])), none⟩] false)
        (.seq
          (.seq
            (.ops [⟨some 4, .move (.c (.int .i64 0)), none⟩] false)
            (.block 0
              (.loop L35_0)))
          (.seq
            (.ops [⟨some 17, .move (.t 3), none⟩, 
                ⟨some 2, .move (.t 17), none⟩] false)
            (.ret)))) }

/- sequitur/sequiturref08.Atoms -/
def L36_0 : AC :=
  .seq
    (.seq
      (.ops [⟨some 5, .move (.t 4), none⟩, 
          ⟨some 6, .move (.t 0), none⟩, 
          ⟨some 7, .len (.t 6), none⟩, 
          ⟨some 8, .bin .lss (.t 5) (.t 7), none⟩] false)
      (.cond (.t 8)
        (.skip)
        (.exit 0)))
    (.seq
      (.block 1
        (.ops [⟨some 11, .move (.t 3), none⟩, 
            ⟨some 12, .move (.t 0), none⟩, 
            ⟨some 13, .move (.t 4), none⟩, 
            ⟨some 14, .idxA 5 (.t 12) (.t 13), none⟩, 
            ⟨some 15, .load true 5 (.t 14), none⟩, 
            ⟨some 16, .call 66 [.t 11, .t 15], none⟩, 
            ⟨some 3, .move (.t 16), none⟩] false))
      (.ops [⟨some 9, .move (.t 4), none⟩, 
          ⟨some 10, .bin .add (.t 9) (.c (.int .i64 1)), none⟩, 
          ⟨some 4, .move (.t 10), none⟩] false))
def F36 : AF :=
  { ntmps := 18, results := [.tmp 2], pure := true, body :=
    .seq
      (.ops [⟨some 2, .move (.c (.fsl 5 [])), none⟩] false)
      (.seq
        (.ops [⟨some 3, .move (.c (.fsl 5 [])), none⟩] false)
        (.seq
          (.seq
            (.ops [⟨some 4, .move (.c (.int .i64 0)), none⟩] false)
            (.block 0
              (.loop L36_0)))
          (.seq
            (.ops [⟨some 17, .move (.t 3), none⟩, 
                ⟨some 2, .move (.t 17), none⟩] false)
            (.ret)))) }

/- sequitur/sequiturbase.weight -/
def L37_0 : AC :=
  .seq
    (.seq
      (.ops [⟨some 8, .move (.t 6), none⟩, 
          ⟨some 9, .fieldA 3 (.t 2), none⟩, 
          ⟨some 10, .load false 1 (.t 9), none⟩, 
          ⟨some 11, .len (.t 10), none⟩, 
          ⟨some 12, .bin .lss (.t 8) (.t 11), none⟩, 
          ⟨some 13, .move (.t 12), none⟩, 
          ⟨some 14, .move (.t 5), some (13, true)⟩, 
          ⟨some 15, .move (.t 1), some (13, true)⟩, 
          ⟨some 16, .bin .leq (.t 14) (.t 15), some (13, true)⟩, 
          ⟨some 17, .pick (.t 13) (.t 16) (.c (.bool false)), none⟩] false)
      (.cond (.t 17)
        (.skip)
        (.exit 0)))
    (.seq
      (.block 1
        (.ops [⟨some 20, .move (.t 5), none⟩, 
            ⟨some 21, .fieldA 3 (.t 2), none⟩, 
            ⟨some 22, .load false 1 (.t 21), none⟩, 
            ⟨some 23, .move (.t 6), none⟩, 
            ⟨some 24, .idxA 4 (.t 22) (.t 23), none⟩, 
            ⟨some 25, .load true 4 (.t 24), none⟩, 
            ⟨some 26, .move (.t 1), none⟩, 
            ⟨some 27, .move (.t 5), none⟩, 
            ⟨some 28, .bin .sub (.t 26) (.t 27), none⟩, 
            ⟨some 29, .call 67 [.t 25, .t 28], none⟩, 
            ⟨some 30, .bin .add (.t 20) (.t 29), none⟩, 
            ⟨some 5, .move (.t 30), none⟩] false))
      (.ops [⟨some 18, .move (.t 6), none⟩, 
          ⟨some 19, .bin .add (.t 18) (.c (.int .i64 1)), none⟩, 
          ⟨some 6, .move (.t 19), none⟩] false))

def L37_1 : AC :=
  .seq
    (.seq
      (.ops [⟨some 31, .move (.t 7), none⟩, 
          ⟨some 32, .fieldA 4 (.t 2), none⟩, 
          ⟨some 33, .load false 1 (.t 32), none⟩, 
          ⟨some 34, .len (.t 33), none⟩, 
          ⟨some 35, .bin .lss (.t 31) (.t 34), none⟩, 
          ⟨some 36, .move (.t 35), none⟩, 
          ⟨some 37, .move (.t 5), some (36, true)⟩, 
          ⟨some 38, .move (.t 1), some (36, true)⟩, 
          ⟨some 39, .bin .leq (.t 37) (.t 38), some (36, true)⟩, 
          ⟨some 40, .pick (.t 36) (.t 39) (.c (.bool false)), none⟩] false)
      (.cond (.t 40)
        (.skip)
        (.exit 2)))
    (.seq
      (.block 3
        (.ops [⟨some 43, .move (.t 5), none⟩, 
            ⟨some 44, .fieldA 4 (.t 2), none⟩, 
            ⟨some 45, .load false 1 (.t 44), none⟩, 
            ⟨some 46, .move (.t 7), none⟩, 
            ⟨some 47, .idxA 5 (.t 45) (.t 46), none⟩, 
            ⟨some 48, .load true 5 (.t 47), none⟩, 
            ⟨some 49, .move (.t 1), none⟩, 
            ⟨some 50, .move (.t 5), none⟩, 
            ⟨some 51, .bin .sub (.t 49) (.t 50), none⟩, 
            ⟨some 52, .call 37 [.t 48, .t 51], none⟩, 
            ⟨some 53, .bin .add (.t 43) (.t 52), none⟩, 
            ⟨some 5, .move (.t 53), none⟩] false))
      (.ops [⟨some 41, .move (.t 7), none⟩, 
          ⟨some 42, .bin .add (.t 41) (.c (.int .i64 1)), none⟩, 
          ⟨some 7, .move (.t 42), none⟩] false))
def F37 : AF :=
  { ntmps := 55, results := [.tmp 4], pure := true, body :=
    .seq
      (.ops [⟨some 2, .box 25 (.t 0), none⟩, 
          ⟨some 4, .move (.c (.int .i64 0)), none⟩] false)
      (.seq
        (.ops [⟨some 5, .move (.c (.int .i64 1)), none⟩] false)
        (.seq
          (.seq
            (.ops [⟨some 6, .move (.c (.int .i64 0)), none⟩] false)
            (.block 0
              (.loop L37_0)))
          (.seq
            (.seq
              (.ops [⟨some 7, .move (.c (.int .i64 0)), none⟩] false)
              (.block 2
                (.loop L37_1)))
            (.seq
              (.ops [⟨some 54, .move (.t 5), none⟩, 
                  ⟨some 4, .move (.t 54), none⟩] false)
              (.ret))))) }

/- sequitur/sequiturlaw08.pred -/
def F38 : AF :=
  { ntmps := 5, results := [.cell 2 true 5], pure := true, body :=
    .seq
      (.ops [⟨some 2, .alloc 25 [.int .i64 0, .str ⟨#[]⟩, .str ⟨#[]⟩, .fsl 4 [], .fsl 5 []], none⟩] false)
      (.seq
        (.ops [⟨some 3, .move (.t 0), none⟩, 
            ⟨some 4, .build [.int .i64 0, .str ⟨#[]⟩, .str ⟨#[]⟩, .fsl 4 [], .fsl 5 []] [(0, 1, .c (.int .i64 3)), (1, 1, .t 3)], none⟩, 
            ⟨none, .store 5 (.t 2) (.t 4), none⟩] false)
        (.ret)) }

/- sequitur/sequiturbase.Claim -/
def F39 : AF :=
  { ntmps := 46, results := [.tmp 4], pure := true, body :=
    .seq
      (.ops [⟨some 2, .box 25 (.t 0), none⟩, 
          ⟨some 3, .box 25 (.t 1), none⟩, 
          ⟨some 4, .move (.c (.bool false)), none⟩] false)
      (.seq
        (.seq
          (.ops [⟨some 5, .fieldA 0 (.t 2), none⟩, 
              ⟨some 6, .load false 1 (.t 5), none⟩, 
              ⟨some 7, .fieldA 0 (.t 3), none⟩, 
              ⟨some 8, .load false 1 (.t 7), none⟩, 
              ⟨some 9, .bin .neq (.t 6) (.t 8), none⟩, 
              ⟨some 10, .move (.t 9), none⟩, 
              ⟨some 11, .fieldA 2 (.t 2), some (10, false)⟩, 
              ⟨some 12, .load false 1 (.t 11), some (10, false)⟩, 
              ⟨some 13, .fieldA 2 (.t 3), some (10, false)⟩, 
              ⟨some 14, .load false 1 (.t 13), some (10, false)⟩, 
              ⟨some 15, .bin .neq (.t 12) (.t 14), some (10, false)⟩, 
              ⟨some 16, .pick (.t 10) (.c (.bool true)) (.t 15), none⟩, 
              ⟨some 17, .move (.t 16), none⟩, 
              ⟨some 18, .fieldA 0 (.t 2), some (17, false)⟩, 
              ⟨some 19, .load false 1 (.t 18), some (17, false)⟩, 
              ⟨some 20, .bin .neq (.t 19) (.c (.int .i64 11)), some (17, false)⟩, 
              ⟨some 21, .move (.t 20), some (17, false)⟩, 
              ⟨some 22, .fieldA 0 (.t 2), some (21, true)⟩, 
              ⟨some 23, .load false 1 (.t 22), some (21, true)⟩, 
              ⟨some 24, .bin .neq (.t 23) (.c (.int .i64 12)), some (21, true)⟩, 
              ⟨some 25, .pick (.t 21) (.t 24) (.c (.bool false)), some (17, false)⟩, 
              ⟨some 26, .move (.t 25), some (17, false)⟩, 
              ⟨some 27, .fieldA 1 (.t 2), some (26, true)⟩, 
              ⟨some 28, .load false 1 (.t 27), some (26, true)⟩, 
              ⟨some 29, .fieldA 1 (.t 3), some (26, true)⟩, 
              ⟨some 30, .load false 1 (.t 29), some (26, true)⟩, 
              ⟨some 31, .bin .neq (.t 28) (.t 30), some (26, true)⟩, 
              ⟨some 32, .pick (.t 26) (.t 31) (.c (.bool false)), some (17, false)⟩, 
              ⟨some 33, .pick (.t 17) (.c (.bool true)) (.t 32), none⟩] false)
          (.cond (.t 33)
            (.seq
              (.ops [⟨some 4, .move (.c (.bool false)), none⟩] false)
              (.ret))
            (.skip)))
        (.seq
          (.ops [⟨some 34, .fieldA 3 (.t 2), none⟩, 
              ⟨some 35, .load false 1 (.t 34), none⟩, 
              ⟨some 36, .fieldA 3 (.t 3), none⟩, 
              ⟨some 37, .load false 1 (.t 36), none⟩, 
              ⟨some 38, .call 32 [.t 35, .t 37], none⟩, 
              ⟨some 39, .move (.t 38), none⟩, 
              ⟨some 40, .fieldA 4 (.t 2), some (39, true)⟩, 
              ⟨some 41, .load false 1 (.t 40), some (39, true)⟩, 
              ⟨some 42, .fieldA 4 (.t 3), some (39, true)⟩, 
              ⟨some 43, .load false 1 (.t 42), some (39, true)⟩, 
              ⟨some 44, .call 28 [.t 41, .t 43], some (39, true)⟩, 
              ⟨some 45, .pick (.t 39) (.t 44) (.c (.bool false)), none⟩, 
              ⟨some 4, .move (.t 45), none⟩] false)
          (.ret))) }

/- cmp.Compare[int] -/
def F40 : AF :=
  { ntmps := 20, results := [.tmp 4], pure := true, body :=
    .seq
      (.ops [⟨some 4, .move (.c (.int .i64 0)), none⟩] false)
      (.seq
        (.ops [⟨some 7, .move (.t 0), none⟩, 
            ⟨some 8, .call 68 [.t 7], none⟩, 
            ⟨some 5, .move (.t 8), none⟩] false)
        (.seq
          (.ops [⟨some 9, .move (.t 1), none⟩, 
              ⟨some 10, .call 68 [.t 9], none⟩, 
              ⟨some 6, .move (.t 10), none⟩] false)
          (.seq
            (.seq
              (.ops [⟨some 11, .move (.t 5), none⟩] false)
              (.cond (.t 11)
                (.seq
                  (.seq
                    (.ops [⟨some 12, .move (.t 6), none⟩] false)
                    (.cond (.t 12)
                      (.seq
                        (.ops [⟨some 4, .move (.c (.int .i64 0)), none⟩] false)
                        (.ret))
                      (.skip)))
                  (.seq
                    (.ops [⟨some 4, .move (.c (.int .i64 (-1))), none⟩] false)
                    (.ret)))
                (.skip)))
            (.seq
              (.seq
                (.ops [⟨some 13, .move (.t 6), none⟩] false)
                (.cond (.t 13)
                  (.seq
                    (.ops [⟨some 4, .move (.c (.int .i64 1)), none⟩] false)
                    (.ret))
                  (.skip)))
              (.seq
                (.seq
                  (.ops [⟨some 14, .move (.t 0), none⟩, 
                      ⟨some 15, .move (.t 1), none⟩, 
                      ⟨some 16, .bin .lss (.t 14) (.t 15), none⟩] false)
                  (.cond (.t 16)
                    (.seq
                      (.ops [⟨some 4, .move (.c (.int .i64 (-1))), none⟩] false)
                      (.ret))
                    (.skip)))
                (.seq
                  (.seq
                    (.ops [⟨some 17, .move (.t 0), none⟩, 
                        ⟨some 18, .move (.t 1), none⟩, 
                        ⟨some 19, .bin .gtr (.t 17) (.t 18), none⟩] false)
                    (.cond (.t 19)
                      (.seq
                        (.ops [⟨some 4, .move (.c (.int .i64 1)), none⟩] false)
                        (.ret))
                      (.skip)))
                  (.seq
                    (.ops [⟨some 4, .move (.c (.int .i64 0)), none⟩] false)
                    (.ret)))))))) }

/- sequitur/claim.binder -/
def F41 : AF :=
  { ntmps := 11, results := [.tmp 2], pure := true, body :=
    .seq
      (.ops [⟨some 1, .box 25 (.t 0), none⟩, 
          ⟨some 2, .move (.c (.bool false)), none⟩] false)
      (.seq
        (.ops [⟨some 3, .fieldA 0 (.t 1), none⟩, 
            ⟨some 4, .load false 1 (.t 3), none⟩, 
            ⟨some 5, .bin .eql (.t 4) (.c (.int .i64 11)), none⟩, 
            ⟨some 6, .move (.t 5), none⟩, 
            ⟨some 7, .fieldA 0 (.t 1), some (6, false)⟩, 
            ⟨some 8, .load false 1 (.t 7), some (6, false)⟩, 
            ⟨some 9, .bin .eql (.t 8) (.c (.int .i64 12)), some (6, false)⟩, 
            ⟨some 10, .pick (.t 6) (.c (.bool true)) (.t 9), none⟩, 
            ⟨some 2, .move (.t 10), none⟩] false)
        (.ret)) }

/- cmp.Compare[string] -/
def F42 : AF :=
  { ntmps := 20, results := [.tmp 4], pure := true, body :=
    .seq
      (.ops [⟨some 4, .move (.c (.int .i64 0)), none⟩] false)
      (.seq
        (.ops [⟨some 7, .move (.t 0), none⟩, 
            ⟨some 8, .call 69 [.t 7], none⟩, 
            ⟨some 5, .move (.t 8), none⟩] false)
        (.seq
          (.ops [⟨some 9, .move (.t 1), none⟩, 
              ⟨some 10, .call 69 [.t 9], none⟩, 
              ⟨some 6, .move (.t 10), none⟩] false)
          (.seq
            (.seq
              (.ops [⟨some 11, .move (.t 5), none⟩] false)
              (.cond (.t 11)
                (.seq
                  (.seq
                    (.ops [⟨some 12, .move (.t 6), none⟩] false)
                    (.cond (.t 12)
                      (.seq
                        (.ops [⟨some 4, .move (.c (.int .i64 0)), none⟩] false)
                        (.ret))
                      (.skip)))
                  (.seq
                    (.ops [⟨some 4, .move (.c (.int .i64 (-1))), none⟩] false)
                    (.ret)))
                (.skip)))
            (.seq
              (.seq
                (.ops [⟨some 13, .move (.t 6), none⟩] false)
                (.cond (.t 13)
                  (.seq
                    (.ops [⟨some 4, .move (.c (.int .i64 1)), none⟩] false)
                    (.ret))
                  (.skip)))
              (.seq
                (.seq
                  (.ops [⟨some 14, .move (.t 0), none⟩, 
                      ⟨some 15, .move (.t 1), none⟩, 
                      ⟨some 16, .bin .lss (.t 14) (.t 15), none⟩] false)
                  (.cond (.t 16)
                    (.seq
                      (.ops [⟨some 4, .move (.c (.int .i64 (-1))), none⟩] false)
                      (.ret))
                    (.skip)))
                (.seq
                  (.seq
                    (.ops [⟨some 17, .move (.t 0), none⟩, 
                        ⟨some 18, .move (.t 1), none⟩, 
                        ⟨some 19, .bin .gtr (.t 17) (.t 18), none⟩] false)
                    (.cond (.t 19)
                      (.seq
                        (.ops [⟨some 4, .move (.c (.int .i64 1)), none⟩] false)
                        (.ret))
                      (.skip)))
                  (.seq
                    (.ops [⟨some 4, .move (.c (.int .i64 0)), none⟩] false)
                    (.ret)))))))) }

/- cmp.Or[int] -/
def L43_0 : AC :=
  .seq
    (.ops [⟨some 9, .bin .lss (.t 8) (.t 7), none⟩] false)
    (.seq
      (.cond (.t 9)
        (.skip)
        (.exit 0))
      (.seq
        (.block 1
          (.seq
            (.ops [⟨some 10, .idxA 1 (.t 6) (.t 8), none⟩, 
                ⟨some 11, .load false 1 (.t 10), none⟩, 
                ⟨some 5, .move (.t 11), none⟩] false)
            (.seq
              (.ops [⟨some 12, .move (.t 5), none⟩, 
                  ⟨some 13, .move (.t 3), none⟩, 
                  ⟨some 14, .bin .neq (.t 12) (.t 13), none⟩] false)
              (.cond (.t 14)
                (.seq
                  (.ops [⟨some 15, .move (.t 5), none⟩, 
                      ⟨some 2, .move (.t 15), none⟩] false)
                  (.ret))
                (.skip)))))
        (.ops [⟨some 16, .bin .add (.t 8) (.c (.int .i64 1)), none⟩, 
            ⟨some 8, .move (.t 16), none⟩] false)))
def F43 : AF :=
  { ntmps := 18, results := [.tmp 2], pure := true, body :=
    .seq
      (.ops [⟨some 2, .move (.c (.int .i64 0)), none⟩] false)
      (.seq
        (.ops [⟨some 3, .move (.c (.int .i64 0)), none⟩] false)
        (.seq
          (.seq
            (.ops [⟨some 6, .move (.t 0), none⟩, 
                ⟨some 7, .len (.t 6), none⟩, 
                ⟨some 8, .move (.c (.int .i64 0)), none⟩] false)
            (.block 0
              (.loop L43_0)))
          (.seq
            (.ops [⟨some 17, .move (.t 3), none⟩, 
                ⟨some 2, .move (.t 17), none⟩] false)
            (.ret)))) }

/- sequitur/term.Compare -/
def F44 : AF :=
  { ntmps := 34, results := [.tmp 4], pure := true, body :=
    .seq
      (.ops [⟨some 2, .box 56 (.t 0), none⟩, 
          ⟨some 3, .box 56 (.t 1), none⟩, 
          ⟨some 4, .move (.c (.int .i64 0)), none⟩] false)
      (.seq
        (.ops [⟨some 5, .fieldA 0 (.t 2), none⟩, 
            ⟨some 6, .load false 1 (.t 5), none⟩, 
            ⟨some 7, .fieldA 0 (.t 3), none⟩, 
            ⟨some 8, .load false 1 (.t 7), none⟩, 
            ⟨some 9, .call 40 [.t 6, .t 8], none⟩, 
            ⟨some 10, .fieldA 2 (.t 2), none⟩, 
            ⟨some 11, .load false 1 (.t 10), none⟩, 
            ⟨some 12, .fieldA 2 (.t 3), none⟩, 
            ⟨some 13, .load false 1 (.t 12), none⟩, 
            ⟨some 14, .call 70 [.t 11, .t 13], none⟩, 
            ⟨some 15, .fieldA 1 (.t 2), none⟩, 
            ⟨some 16, .load false 1 (.t 15), none⟩, 
            ⟨some 17, .fieldA 1 (.t 3), none⟩, 
            ⟨some 18, .load false 1 (.t 17), none⟩, 
            ⟨some 19, .call 42 [.t 16, .t 18], none⟩, 
            ⟨some 20, .fieldA 3 (.t 2), none⟩, 
            ⟨some 21, .load false 1 (.t 20), none⟩, 
            ⟨some 22, .len (.t 21), none⟩, 
            ⟨some 23, .fieldA 3 (.t 3), none⟩, 
            ⟨some 24, .load false 1 (.t 23), none⟩, 
            ⟨some 25, .len (.t 24), none⟩, 
            ⟨some 26, .call 40 [.t 22, .t 25], none⟩, 
            ⟨some 27, .fieldA 3 (.t 2), none⟩, 
            ⟨some 28, .load false 1 (.t 27), none⟩, 
            ⟨some 29, .fieldA 3 (.t 3), none⟩, 
            ⟨some 30, .load false 1 (.t 29), none⟩, 
            ⟨some 31, .call 71 [.t 28, .t 30, .f 44], none⟩, 
            ⟨some 32, .buildSl 1 [.int .i64 0] 5 [(0, .t 9), (1, .t 14), (2, .t 19), (3, .t 26), (4, .t 31)], none⟩, 
            ⟨some 33, .call 43 [.t 32], none⟩, 
            ⟨some 4, .move (.t 33), none⟩] true)
        (.ret)) }

/- sequitur/sequiturref08.number -/
def F45 : AF :=
  { ntmps := 11, results := [.tmp 4], pure := true, body :=
    .seq
      (.ops [⟨some 4, .move (.c (.int .i64 0)), none⟩] false)
      (.seq
        (.seq
          (.ops [⟨some 5, .move (.t 0), none⟩, 
              ⟨some 6, .move (.t 1), none⟩, 
              ⟨some 7, .bin .lss (.t 5) (.t 6), none⟩] false)
          (.cond (.t 7)
            (.seq
              (.ops [⟨some 4, .move (.c (.int .i64 (-1))), none⟩] false)
              (.ret))
            (.skip)))
        (.seq
          (.seq
            (.ops [⟨some 8, .move (.t 0), none⟩, 
                ⟨some 9, .move (.t 1), none⟩, 
                ⟨some 10, .bin .gtr (.t 8) (.t 9), none⟩] false)
            (.cond (.t 10)
              (.seq
                (.ops [⟨some 4, .move (.c (.int .i64 1)), none⟩] false)
                (.ret))
              (.skip)))
          (.seq
            (.ops [⟨some 4, .move (.c (.int .i64 0)), none⟩] false)
            (.ret)))) }

/- sequitur/sequiturref08.text -/
def F46 : AF :=
  { ntmps := 11, results := [.tmp 4], pure := true, body :=
    .seq
      (.ops [⟨some 4, .move (.c (.int .i64 0)), none⟩] false)
      (.seq
        (.seq
          (.ops [⟨some 5, .move (.t 0), none⟩, 
              ⟨some 6, .move (.t 1), none⟩, 
              ⟨some 7, .bin .lss (.t 5) (.t 6), none⟩] false)
          (.cond (.t 7)
            (.seq
              (.ops [⟨some 4, .move (.c (.int .i64 (-1))), none⟩] false)
              (.ret))
            (.skip)))
        (.seq
          (.seq
            (.ops [⟨some 8, .move (.t 0), none⟩, 
                ⟨some 9, .move (.t 1), none⟩, 
                ⟨some 10, .bin .gtr (.t 8) (.t 9), none⟩] false)
            (.cond (.t 10)
              (.seq
                (.ops [⟨some 4, .move (.c (.int .i64 1)), none⟩] false)
                (.ret))
              (.skip)))
          (.seq
            (.ops [⟨some 4, .move (.c (.int .i64 0)), none⟩] false)
            (.ret)))) }

/- sequitur/sequiturref08.TermCompare -/
def L47_0 : AC :=
  .seq
    (.seq
      (.ops [⟨some 35, .move (.t 6), none⟩, 
          ⟨some 36, .fieldA 3 (.t 2), none⟩, 
          ⟨some 37, .load false 1 (.t 36), none⟩, 
          ⟨some 38, .len (.t 37), none⟩, 
          ⟨some 39, .bin .lss (.t 35) (.t 38), none⟩, 
          ⟨some 40, .move (.t 39), none⟩, 
          ⟨some 41, .move (.t 5), some (40, true)⟩, 
          ⟨some 42, .bin .eql (.t 41) (.c (.int .i64 0)), some (40, true)⟩, 
          ⟨some 43, .pick (.t 40) (.t 42) (.c (.bool false)), none⟩] false)
      (.cond (.t 43)
        (.skip)
        (.exit 0)))
    (.seq
      (.block 1
        (.ops [⟨some 46, .fieldA 3 (.t 2), none⟩, 
            ⟨some 47, .load false 1 (.t 46), none⟩, 
            ⟨some 48, .move (.t 6), none⟩, 
            ⟨some 49, .idxA 4 (.t 47) (.t 48), none⟩, 
            ⟨some 50, .load true 4 (.t 49), none⟩, 
            ⟨some 51, .fieldA 3 (.t 3), none⟩, 
            ⟨some 52, .load false 1 (.t 51), none⟩, 
            ⟨some 53, .move (.t 6), none⟩, 
            ⟨some 54, .idxA 4 (.t 52) (.t 53), none⟩, 
            ⟨some 55, .load true 4 (.t 54), none⟩, 
            ⟨some 56, .call 47 [.t 50, .t 55], none⟩, 
            ⟨some 5, .move (.t 56), none⟩] true))
      (.ops [⟨some 44, .move (.t 6), none⟩, 
          ⟨some 45, .bin .add (.t 44) (.c (.int .i64 1)), none⟩, 
          ⟨some 6, .move (.t 45), none⟩] false))
def F47 : AF :=
  { ntmps := 58, results := [.tmp 4], pure := true, body :=
    .seq
      (.ops [⟨some 2, .box 56 (.t 0), none⟩, 
          ⟨some 3, .box 56 (.t 1), none⟩, 
          ⟨some 4, .move (.c (.int .i64 0)), none⟩] false)
      (.seq
        (.ops [⟨some 7, .fieldA 0 (.t 2), none⟩, 
            ⟨some 8, .load false 1 (.t 7), none⟩, 
            ⟨some 9, .fieldA 0 (.t 3), none⟩, 
            ⟨some 10, .load false 1 (.t 9), none⟩, 
            ⟨some 11, .call 45 [.t 8, .t 10], none⟩, 
            ⟨some 5, .move (.t 11), none⟩] false)
        (.seq
          (.seq
            (.ops [⟨some 12, .move (.t 5), none⟩, 
                ⟨some 13, .bin .eql (.t 12) (.c (.int .i64 0)), none⟩] false)
            (.cond (.t 13)
              (.ops [⟨some 14, .fieldA 2 (.t 2), none⟩, 
                  ⟨some 15, .load false 1 (.t 14), none⟩, 
                  ⟨some 16, .fieldA 2 (.t 3), none⟩, 
                  ⟨some 17, .load false 1 (.t 16), none⟩, 
                  ⟨some 18, .call 45 [.t 15, .t 17], none⟩, 
                  ⟨some 5, .move (.t 18), none⟩] false)
              (.skip)))
          (.seq
            (.seq
              (.ops [⟨some 19, .move (.t 5), none⟩, 
                  ⟨some 20, .bin .eql (.t 19) (.c (.int .i64 0)), none⟩] false)
              (.cond (.t 20)
                (.ops [⟨some 21, .fieldA 1 (.t 2), none⟩, 
                    ⟨some 22, .load false 1 (.t 21), none⟩, 
                    ⟨some 23, .fieldA 1 (.t 3), none⟩, 
                    ⟨some 24, .load false 1 (.t 23), none⟩, 
                    ⟨some 25, .call 46 [.t 22, .t 24], none⟩, 
                    ⟨some 5, .move (.t 25), none⟩] false)
                (.skip)))
            (.seq
              (.seq
                (.ops [⟨some 26, .move (.t 5), none⟩, 
                    ⟨some 27, .bin .eql (.t 26) (.c (.int .i64 0)), none⟩] false)
                (.cond (.t 27)
                  (.ops [⟨some 28, .fieldA 3 (.t 2), none⟩, 
                      ⟨some 29, .load false 1 (.t 28), none⟩, 
                      ⟨some 30, .len (.t 29), none⟩, 
                      ⟨some 31, .fieldA 3 (.t 3), none⟩, 
                      ⟨some 32, .load false 1 (.t 31), none⟩, 
                      ⟨some 33, .len (.t 32), none⟩, 
                      ⟨some 34, .call 45 [.t 30, .t 33], none⟩, 
                      ⟨some 5, .move (.t 34), none⟩] false)
                  (.skip)))
              (.seq
                (.seq
                  (.ops [⟨some 6, .move (.c (.int .i64 0)), none⟩] false)
                  (.block 0
                    (.loop L47_0)))
                (.seq
                  (.ops [⟨some 57, .move (.t 5), none⟩, 
                      ⟨some 4, .move (.t 57), none⟩] false)
                  (.ret))))))) }

/- sequitur/sequiturbase.Exacts -/
def L48_0 : AC :=
  .seq
    (.seq
      (.ops [⟨some 11, .move (.t 5), none⟩, 
          ⟨some 12, .move (.t 0), none⟩, 
          ⟨some 13, .len (.t 12), none⟩, 
          ⟨some 14, .bin .lss (.t 11) (.t 13), none⟩] false)
      (.cond (.t 14)
        (.skip)
        (.exit 0)))
    (.seq
      (.block 1
        (.seq
          (.ops [⟨some 17, .move (.t 0), none⟩, 
              ⟨some 18, .move (.t 5), none⟩, 
              ⟨some 19, .idxA 5 (.t 17) (.t 18), none⟩, 
              ⟨some 20, .load true 5 (.t 19), none⟩, 
              ⟨some 21, .move (.t 1), none⟩, 
              ⟨some 22, .move (.t 5), none⟩, 
              ⟨some 23, .idxA 5 (.t 21) (.t 22), none⟩, 
              ⟨some 24, .load true 5 (.t 23), none⟩, 
              ⟨some 25, .call 16 [.t 20, .t 24], none⟩, 
              ⟨some 26, .not (.t 25), none⟩] true)
          (.cond (.t 26)
            (.seq
              (.ops [⟨some 4, .move (.c (.bool false)), none⟩] false)
              (.ret))
            (.skip))))
      (.ops [⟨some 15, .move (.t 5), none⟩, 
          ⟨some 16, .bin .add (.t 15) (.c (.int .i64 1)), none⟩, 
          ⟨some 5, .move (.t 16), none⟩] false))
def F48 : AF :=
  { ntmps := 27, results := [.tmp 4], pure := true, body :=
    .seq
      (.ops [⟨some 4, .move (.c (.bool false)), none⟩] false)
      (.seq
        (.seq
          (.ops [⟨some 6, .move (.t 0), none⟩, 
              ⟨some 7, .len (.t 6), none⟩, 
              ⟨some 8, .move (.t 1), none⟩, 
              ⟨some 9, .len (.t 8), none⟩, 
              ⟨some 10, .bin .neq (.t 7) (.t 9), none⟩] false)
          (.cond (.t 10)
            (.seq
              (.ops [⟨some 4, .move (.c (.bool false)), none⟩] false)
              (.ret))
            (.skip)))
        (.seq
          (.seq
            (.ops [⟨some 5, .move (.c (.int .i64 0)), none⟩] false)
            (.block 0
              (.loop L48_0)))
          (.seq
            (.ops [⟨some 4, .move (.c (.bool true)), none⟩] false)
            (.ret)))) }

/- sequitur/claim.join -/
def L49_0 : AC :=
  .seq
    (.seq
      (.ops [⟨some 23, .move (.t 8), none⟩, 
          ⟨some 24, .bin .geq (.t 23) (.c (.int .i64 0)), none⟩] false)
      (.cond (.t 24)
        (.skip)
        (.exit 0)))
    (.seq
      (.block 1
        (.ops [⟨some 27, .move (.t 0), none⟩, 
            ⟨some 28, .move (.t 2), none⟩, 
            ⟨some 29, .move (.t 8), none⟩, 
            ⟨some 30, .idxA 5 (.t 28) (.t 29), none⟩, 
            ⟨some 31, .load true 5 (.t 30), none⟩, 
            ⟨some 32, .load true 5 (.t 7), none⟩, 
            ⟨some 33, .buildSl 5 [.int .i64 0, .str ⟨#[]⟩, .str ⟨#[]⟩, .fsl 4 [], .fsl 5 []] 2 [(0, .t 31), (1, .t 32)], none⟩, 
            ⟨some 34, .build [.int .i64 0, .str ⟨#[]⟩, .str ⟨#[]⟩, .fsl 4 [], .fsl 5 []] [(0, 1, .t 27), (4, 1, .t 33)], none⟩, 
            ⟨none, .store 5 (.t 7) (.t 34), none⟩] true))
      (.ops [⟨some 25, .move (.t 8), none⟩, 
          ⟨some 26, .bin .sub (.t 25) (.c (.int .i64 1)), none⟩, 
          ⟨some 8, .move (.t 26), none⟩] false))
def F49 : AF :=
  { ntmps := 36, results := [.cell 6 true 5], pure := true, body :=
    .seq
      (.ops [⟨some 6, .alloc 25 [.int .i64 0, .str ⟨#[]⟩, .str ⟨#[]⟩, .fsl 4 [], .fsl 5 []], none⟩] false)
      (.seq
        (.seq
          (.ops [⟨some 9, .move (.t 2), none⟩, 
              ⟨some 10, .len (.t 9), none⟩, 
              ⟨some 11, .bin .eql (.t 10) (.c (.int .i64 0)), none⟩] false)
          (.cond (.t 11)
            (.seq
              (.ops [⟨some 12, .move (.t 1), none⟩, 
                  ⟨some 13, .build [.int .i64 0, .str ⟨#[]⟩, .str ⟨#[]⟩, .fsl 4 [], .fsl 5 []] [(0, 1, .t 12)], none⟩, 
                  ⟨none, .store 5 (.t 6) (.t 13), none⟩] false)
              (.ret))
            (.skip)))
        (.seq
          (.ops [⟨some 14, .move (.t 2), none⟩, 
              ⟨some 15, .move (.t 2), none⟩, 
              ⟨some 16, .len (.t 15), none⟩, 
              ⟨some 17, .bin .sub (.t 16) (.c (.int .i64 1)), none⟩, 
              ⟨some 18, .idxA 5 (.t 14) (.t 17), none⟩, 
              ⟨some 19, .load true 5 (.t 18), none⟩, 
              ⟨some 7, .alloc 25 [.int .i64 0, .str ⟨#[]⟩, .str ⟨#[]⟩, .fsl 4 [], .fsl 5 []], none⟩, 
              ⟨none, .store 5 (.t 7) (.t 19), none⟩] false)
          (.seq
            (.seq
              (.ops [⟨some 20, .move (.t 2), none⟩, 
                  ⟨some 21, .len (.t 20), none⟩, 
                  ⟨some 22, .bin .sub (.t 21) (.c (.int .i64 2)), none⟩, 
                  ⟨some 8, .move (.t 22), none⟩] false)
              (.block 0
                (.loop L49_0)))
            (.seq
              (.ops [⟨some 35, .load true 5 (.t 7), none⟩, 
                  ⟨none, .store 5 (.t 6) (.t 35), none⟩] false)
              (.ret))))) }

/- sequitur/claim.Atoms$1 -/
def L53_0 : AC :=
  .seq
    (.ops [⟨some 31, .bin .lss (.t 30) (.t 29), none⟩] false)
    (.seq
      (.cond (.t 31)
        (.skip)
        (.exit 1))
      (.seq
        (.block 2
          (.seq
            (.ops [⟨some 32, .idxA 5 (.t 28) (.t 30), none⟩, 
                ⟨some 33, .load true 5 (.t 32), none⟩, 
                ⟨some 5, .alloc 25 [.int .i64 0, .str ⟨#[]⟩, .str ⟨#[]⟩, .fsl 4 [], .fsl 5 []], none⟩, 
                ⟨none, .store 5 (.t 5) (.t 33), none⟩] false)
            (.ops [⟨some 34, .load false 1 (.t 1), none⟩, 
                ⟨some 35, .load true 5 (.t 5), none⟩, 
                ⟨some 36, .callv (.t 34) [.t 35], none⟩] false)))
        (.ops [⟨some 37, .bin .add (.t 30) (.c (.int .i64 1)), none⟩, 
            ⟨some 30, .move (.t 37), none⟩] false)))
def F53 : AF :=
  { ntmps := 38, results := [], pure := false, body :=
    .seq
      (.ops [⟨some 3, .box 25 (.t 0), none⟩] false)
      (.seq
        (.ops [⟨some 6, .fieldA 0 (.t 3), none⟩, 
            ⟨some 7, .load false 1 (.t 6), none⟩] false)
        (.block 0
          (.seq
            (.seq
              (.ops [⟨some 19, .bin .eql (.t 7) (.c (.int .i64 1)), none⟩, 
                  ⟨some 18, .move (.t 19), none⟩] false)
              (.cond (.t 18)
                (.skip)
                (.ops [⟨some 20, .bin .eql (.t 7) (.c (.int .i64 2)), none⟩, 
                    ⟨some 18, .move (.t 20), none⟩] false)))
            (.cond (.t 18)
              (.skip)
              (.seq
                (.seq
                  (.ops [⟨some 22, .bin .eql (.t 7) (.c (.int .i64 6)), none⟩, 
                      ⟨some 21, .move (.t 22), none⟩] false)
                  (.cond (.t 21)
                    (.skip)
                    (.seq
                      (.ops [⟨some 23, .bin .eql (.t 7) (.c (.int .i64 7)), none⟩, 
                          ⟨some 21, .move (.t 23), none⟩] false)
                      (.cond (.t 21)
                        (.skip)
                        (.seq
                          (.ops [⟨some 24, .bin .eql (.t 7) (.c (.int .i64 8)), none⟩, 
                              ⟨some 21, .move (.t 24), none⟩] false)
                          (.cond (.t 21)
                            (.skip)
                            (.seq
                              (.ops [⟨some 25, .bin .eql (.t 7) (.c (.int .i64 9)), none⟩, 
                                  ⟨some 21, .move (.t 25), none⟩] false)
                              (.cond (.t 21)
                                (.skip)
                                (.ops [⟨some 26, .bin .eql (.t 7) (.c (.int .i64 10)), none⟩, 
                                    ⟨some 21, .move (.t 26), none⟩] false)))))))))
                (.cond (.t 21)
                  (.seq
                    (.ops [⟨some 27, .fieldA 4 (.t 3), none⟩, 
                        ⟨some 28, .load false 1 (.t 27), none⟩, 
                        ⟨some 29, .len (.t 28), none⟩, 
                        ⟨some 30, .move (.c (.int .i64 0)), none⟩] false)
                    (.block 1
                      (.loop L53_0)))
                  (.seq
                    (.ops [⟨some 8, .load false 1 (.t 2), none⟩, 
                        ⟨some 9, .mkfn (.func 55) [] [.t 3], none⟩, 
                        ⟨some 10, .call 54 [.t 8, .t 9], none⟩, 
                        ⟨some 11, .not (.t 10), none⟩] false)
                    (.cond (.t 11)
                      (.ops [⟨some 12, .load false 1 (.t 2), none⟩, 
                          ⟨some 13, .load true 5 (.t 3), none⟩, 
                          ⟨some 14, .len (.t 12), none⟩, 
                          ⟨some 15, .buildSl 5 [.int .i64 0, .str ⟨#[]⟩, .str ⟨#[]⟩, .fsl 4 [], .fsl 5 []] 1 [(0, .c (.agg [.int .i64 0, .str ⟨#[]⟩, .str ⟨#[]⟩, .fsl 0 [], .fsl 0 []]))], none⟩, 
                          ⟨some 16, .append 25 5 88 (.t 12) (.t 15), none⟩, 
                          ⟨some 17, .idxA 5 (.t 16) (.t 14), none⟩, 
                          ⟨none, .store 5 (.t 17) (.t 13), none⟩, 
                          ⟨none, .store 1 (.t 2) (.t 16), none⟩] true)
                      (.skip))))))))) }

/- slices.ContainsFunc[[]sequitur/api.Claim,sequitur/api.Claim] -/
def F54 : AF :=
  { ntmps := 9, results := [.tmp 4], pure := true, body :=
    .seq
      (.ops [⟨some 4, .move (.c (.bool false)), none⟩] false)
      (.seq
        (.ops [⟨some 5, .move (.t 0), none⟩, 
            ⟨some 6, .move (.t 1), none⟩, 
            ⟨some 7, .call 73 [.t 5, .t 6], none⟩, 
            ⟨some 8, .bin .geq (.t 7) (.c (.int .i64 0)), none⟩, 
            ⟨some 4, .move (.t 8), none⟩] false)
        (.ret)) }

/- sequitur/claim.Atoms$1$1 -/
def F55 : AF :=
  { ntmps := 7, results := [.tmp 3], pure := true, body :=
    .seq
      (.ops [⟨some 2, .box 25 (.t 0), none⟩, 
          ⟨some 3, .move (.c (.bool false)), none⟩] false)
      (.seq
        (.ops [⟨some 4, .load true 5 (.t 2), none⟩, 
            ⟨some 5, .load true 5 (.t 1), none⟩, 
            ⟨some 6, .call 11 [.t 4, .t 5], none⟩, 
            ⟨some 3, .move (.t 6), none⟩] false)
        (.ret)) }

/- sequitur/claim.walk -/
def L56_0 : AC :=
  .seq
    (.ops [⟨some 13, .bin .lss (.t 12) (.t 11), none⟩] false)
    (.seq
      (.cond (.t 13)
        (.skip)
        (.exit 0))
      (.seq
        (.block 1
          (.seq
            (.ops [⟨some 14, .idxA 5 (.t 10) (.t 12), none⟩, 
                ⟨some 15, .load true 5 (.t 14), none⟩, 
                ⟨some 5, .alloc 25 [.int .i64 0, .str ⟨#[]⟩, .str ⟨#[]⟩, .fsl 4 [], .fsl 5 []], none⟩, 
                ⟨none, .store 5 (.t 5) (.t 15), none⟩] false)
            (.ops [⟨some 16, .load true 5 (.t 5), none⟩, 
                ⟨some 17, .move (.t 1), none⟩, 
                ⟨some 18, .call 56 [.t 16, .t 17], none⟩] false)))
        (.ops [⟨some 19, .bin .add (.t 12) (.c (.int .i64 1)), none⟩, 
            ⟨some 12, .move (.t 19), none⟩] false)))
def F56 : AF :=
  { ntmps := 20, results := [], pure := false, body :=
    .seq
      (.ops [⟨some 2, .box 25 (.t 0), none⟩] false)
      (.seq
        (.ops [⟨some 6, .move (.t 1), none⟩, 
            ⟨some 7, .load true 5 (.t 2), none⟩, 
            ⟨some 8, .callv (.t 6) [.t 7], none⟩] false)
        (.seq
          (.ops [⟨some 9, .fieldA 4 (.t 2), none⟩, 
              ⟨some 10, .load false 1 (.t 9), none⟩, 
              ⟨some 11, .len (.t 10), none⟩, 
              ⟨some 12, .move (.c (.int .i64 0)), none⟩] false)
          (.block 0
            (.loop L56_0)))) }

/- sequitur/claim.Names$1 -/
def F57 : AF :=
  { ntmps := 7, results := [], pure := false, body :=
    .seq
      (.ops [⟨some 2, .box 25 (.t 0), none⟩] false)
      (.ops [⟨some 3, .load false 1 (.t 1), none⟩, 
          ⟨some 4, .fieldA 3 (.t 2), none⟩, 
          ⟨some 5, .load false 1 (.t 4), none⟩, 
          ⟨some 6, .append 56 4 56 (.t 3) (.t 5), none⟩, 
          ⟨none, .store 1 (.t 1) (.t 6), none⟩] false) }

/- sequitur/term.Names -/
def A58_1 : AC :=
  .ops [⟨some 6, .alloc 56 [.int .i64 0, .str ⟨#[]⟩, .int .i64 0, .fsl 4 []], none⟩, 
      ⟨none, .store 4 (.t 6) (.t 15), none⟩] false

def B58_1 : AC :=
  .block 3
    (.seq
      (.ops [⟨some 16, .fieldA 0 (.t 6), none⟩, 
          ⟨some 17, .load false 1 (.t 16), none⟩, 
          ⟨some 18, .bin .eql (.t 17) (.c (.int .i64 1)), none⟩] false)
      (.cond (.t 18)
        (.ops [⟨some 19, .load false 1 (.t 3), none⟩, 
            ⟨some 20, .fieldA 1 (.t 6), none⟩, 
            ⟨some 21, .load false 1 (.t 20), none⟩, 
            ⟨some 22, .buildSl 1 [.str ⟨#[]⟩] 1 [(0, .t 21)], none⟩, 
            ⟨some 23, .append 9 1 16 (.t 19) (.t 22), none⟩, 
            ⟨none, .store 1 (.t 3) (.t 23), none⟩] false)
        (.skip)))

def L58_0 : AC :=
  .seq
    (.ops [⟨some 10, .bin .lss (.t 9) (.t 8), none⟩] false)
    (.seq
      (.cond (.t 10)
        (.skip)
        (.exit 0))
      (.seq
        (.block 1
          (.seq
            (.ops [⟨some 11, .idxA 4 (.t 7) (.t 9), none⟩, 
                ⟨some 12, .load true 4 (.t 11), none⟩, 
                ⟨some 5, .alloc 56 [.int .i64 0, .str ⟨#[]⟩, .int .i64 0, .fsl 4 []], none⟩, 
                ⟨none, .store 4 (.t 5) (.t 12), none⟩] false)
            (.seq
              (.ops [⟨some 13, .load true 4 (.t 5), none⟩, 
                  ⟨some 14, .call 74 [.t 13], none⟩] false)
              (.block 2
                (.range (.t 14) [15] A58_1 B58_1)))))
        (.ops [⟨some 24, .bin .add (.t 9) (.c (.int .i64 1)), none⟩, 
            ⟨some 9, .move (.t 24), none⟩] false)))
def F58 : AF :=
  { ntmps := 29, results := [.tmp 2], pure := true, body :=
    .seq
      (.ops [⟨some 2, .move (.c (.fsl 1 [])), none⟩] false)
      (.seq
        (.ops [⟨some 3, .alloc 42 [.fsl 1 []], none⟩] false)
        (.seq
          (.seq
            (.ops [⟨some 7, .move (.t 0), none⟩, 
                ⟨some 8, .len (.t 7), none⟩, 
                ⟨some 9, .move (.c (.int .i64 0)), none⟩] false)
            (.block 0
              (.loop L58_0)))
          (.seq
            (.ops [⟨some 25, .load false 1 (.t 3), none⟩, 
                ⟨some 26, .call 75 [.t 25], none⟩] false)
            (.seq
              (.ops [⟨some 27, .load false 1 (.t 3), none⟩, 
                  ⟨some 28, .call 76 [.t 27], none⟩, 
                  ⟨some 2, .move (.t 28), none⟩] false)
              (.ret))))) }

/- sequitur/sequiturbase.Term -/
def F59 : AF :=
  { ntmps := 31, results := [.tmp 4], pure := true, body :=
    .seq
      (.ops [⟨some 2, .box 56 (.t 0), none⟩, 
          ⟨some 3, .box 56 (.t 1), none⟩, 
          ⟨some 4, .move (.c (.bool false)), none⟩] false)
      (.seq
        (.ops [⟨some 5, .fieldA 0 (.t 2), none⟩, 
            ⟨some 6, .load false 1 (.t 5), none⟩, 
            ⟨some 7, .fieldA 0 (.t 3), none⟩, 
            ⟨some 8, .load false 1 (.t 7), none⟩, 
            ⟨some 9, .bin .eql (.t 6) (.t 8), none⟩, 
            ⟨some 10, .move (.t 9), none⟩, 
            ⟨some 11, .fieldA 1 (.t 2), some (10, true)⟩, 
            ⟨some 12, .load false 1 (.t 11), some (10, true)⟩, 
            ⟨some 13, .fieldA 1 (.t 3), some (10, true)⟩, 
            ⟨some 14, .load false 1 (.t 13), some (10, true)⟩, 
            ⟨some 15, .bin .eql (.t 12) (.t 14), some (10, true)⟩, 
            ⟨some 16, .pick (.t 10) (.t 15) (.c (.bool false)), none⟩, 
            ⟨some 17, .move (.t 16), none⟩, 
            ⟨some 18, .fieldA 2 (.t 2), some (17, true)⟩, 
            ⟨some 19, .load false 1 (.t 18), some (17, true)⟩, 
            ⟨some 20, .fieldA 2 (.t 3), some (17, true)⟩, 
            ⟨some 21, .load false 1 (.t 20), some (17, true)⟩, 
            ⟨some 22, .bin .eql (.t 19) (.t 21), some (17, true)⟩, 
            ⟨some 23, .pick (.t 17) (.t 22) (.c (.bool false)), none⟩, 
            ⟨some 24, .move (.t 23), none⟩, 
            ⟨some 25, .fieldA 3 (.t 2), some (24, true)⟩, 
            ⟨some 26, .load false 1 (.t 25), some (24, true)⟩, 
            ⟨some 27, .fieldA 3 (.t 3), some (24, true)⟩, 
            ⟨some 28, .load false 1 (.t 27), some (24, true)⟩, 
            ⟨some 29, .call 32 [.t 26, .t 28], some (24, true)⟩, 
            ⟨some 30, .pick (.t 24) (.t 29) (.c (.bool false)), none⟩, 
            ⟨some 4, .move (.t 30), none⟩] false)
        (.ret)) }

/- sequitur/claim.Terms$1 -/
def L60_0 : AC :=
  .seq
    (.ops [⟨some 9, .bin .lss (.t 8) (.t 7), none⟩] false)
    (.seq
      (.cond (.t 9)
        (.skip)
        (.exit 0))
      (.seq
        (.block 1
          (.seq
            (.ops [⟨some 10, .idxA 4 (.t 6) (.t 8), none⟩, 
                ⟨some 11, .load true 4 (.t 10), none⟩, 
                ⟨some 4, .alloc 56 [.int .i64 0, .str ⟨#[]⟩, .int .i64 0, .fsl 4 []], none⟩, 
                ⟨none, .store 4 (.t 4) (.t 11), none⟩] false)
            (.seq
              (.ops [⟨some 12, .load false 1 (.t 1), none⟩, 
                  ⟨some 13, .mkfn (.func 62) [] [.t 4], none⟩, 
                  ⟨some 14, .call 61 [.t 12, .t 13], none⟩, 
                  ⟨some 15, .not (.t 14), none⟩] false)
              (.cond (.t 15)
                (.ops [⟨some 16, .load false 1 (.t 1), none⟩, 
                    ⟨some 17, .load true 4 (.t 4), none⟩, 
                    ⟨some 18, .len (.t 16), none⟩, 
                    ⟨some 19, .buildSl 4 [.int .i64 0, .str ⟨#[]⟩, .int .i64 0, .fsl 4 []] 1 [(0, .c (.agg [.int .i64 0, .str ⟨#[]⟩, .int .i64 0, .fsl 0 []]))], none⟩, 
                    ⟨some 20, .append 56 4 56 (.t 16) (.t 19), none⟩, 
                    ⟨some 21, .idxA 4 (.t 20) (.t 18), none⟩, 
                    ⟨none, .store 4 (.t 21) (.t 17), none⟩, 
                    ⟨none, .store 1 (.t 1) (.t 20), none⟩] true)
                (.skip)))))
        (.ops [⟨some 22, .bin .add (.t 8) (.c (.int .i64 1)), none⟩, 
            ⟨some 8, .move (.t 22), none⟩] false)))
def F60 : AF :=
  { ntmps := 23, results := [], pure := false, body :=
    .seq
      (.ops [⟨some 2, .box 25 (.t 0), none⟩] false)
      (.seq
        (.ops [⟨some 5, .fieldA 3 (.t 2), none⟩, 
            ⟨some 6, .load false 1 (.t 5), none⟩, 
            ⟨some 7, .len (.t 6), none⟩, 
            ⟨some 8, .move (.c (.int .i64 0)), none⟩] false)
        (.block 0
          (.loop L60_0))) }

/- slices.ContainsFunc[[]sequitur/api.Term,sequitur/api.Term] -/
def F61 : AF :=
  { ntmps := 9, results := [.tmp 4], pure := true, body :=
    .seq
      (.ops [⟨some 4, .move (.c (.bool false)), none⟩] false)
      (.seq
        (.ops [⟨some 5, .move (.t 0), none⟩, 
            ⟨some 6, .move (.t 1), none⟩, 
            ⟨some 7, .call 77 [.t 5, .t 6], none⟩, 
            ⟨some 8, .bin .geq (.t 7) (.c (.int .i64 0)), none⟩, 
            ⟨some 4, .move (.t 8), none⟩] false)
        (.ret)) }

/- sequitur/claim.Terms$1$1 -/
def F62 : AF :=
  { ntmps := 7, results := [.tmp 3], pure := true, body :=
    .seq
      (.ops [⟨some 2, .box 56 (.t 0), none⟩, 
          ⟨some 3, .move (.c (.bool false)), none⟩] false)
      (.seq
        (.ops [⟨some 4, .load true 4 (.t 2), none⟩, 
            ⟨some 5, .load true 4 (.t 1), none⟩, 
            ⟨some 6, .call 63 [.t 4, .t 5], none⟩, 
            ⟨some 3, .move (.t 6), none⟩] false)
        (.ret)) }

/- sequitur/term.Same -/
def F63 : AF :=
  { ntmps := 9, results := [.tmp 4], pure := true, body :=
    .seq
      (.ops [⟨some 2, .box 56 (.t 0), none⟩, 
          ⟨some 3, .box 56 (.t 1), none⟩, 
          ⟨some 4, .move (.c (.bool false)), none⟩] false)
      (.seq
        (.ops [⟨some 5, .load true 4 (.t 2), none⟩, 
            ⟨some 6, .load true 4 (.t 3), none⟩, 
            ⟨some 7, .call 44 [.t 5, .t 6], none⟩, 
            ⟨some 8, .bin .eql (.t 7) (.c (.int .i64 0)), none⟩, 
            ⟨some 4, .move (.t 8), none⟩] false)
        (.ret)) }

/- sequitur/sequiturref08.terms -/
def L64_1 : AC :=
  .seq
    (.seq
      (.ops [⟨some 16, .move (.t 7), none⟩, 
          ⟨some 17, .move (.t 0), none⟩, 
          ⟨some 18, .len (.t 17), none⟩, 
          ⟨some 19, .bin .lss (.t 16) (.t 18), none⟩] false)
      (.cond (.t 19)
        (.skip)
        (.exit 2)))
    (.seq
      (.block 3
        (.ops [⟨some 22, .move (.t 6), none⟩, 
            ⟨some 23, .move (.t 22), none⟩, 
            ⟨some 24, .move (.t 0), some (23, false)⟩, 
            ⟨some 25, .move (.t 7), some (23, false)⟩, 
            ⟨some 26, .idxA 4 (.t 24) (.t 25), some (23, false)⟩, 
            ⟨some 27, .load true 4 (.t 26), some (23, false)⟩, 
            ⟨some 28, .fieldA 3 (.t 3), some (23, false)⟩, 
            ⟨some 29, .load false 1 (.t 28), some (23, false)⟩, 
            ⟨some 30, .move (.t 5), some (23, false)⟩, 
            ⟨some 31, .idxA 4 (.t 29) (.t 30), some (23, false)⟩, 
            ⟨some 32, .load true 4 (.t 31), some (23, false)⟩, 
            ⟨some 33, .call 59 [.t 27, .t 32], some (23, false)⟩, 
            ⟨some 34, .pick (.t 23) (.c (.bool true)) (.t 33), none⟩, 
            ⟨some 6, .move (.t 34), none⟩] true))
      (.ops [⟨some 20, .move (.t 7), none⟩, 
          ⟨some 21, .bin .add (.t 20) (.c (.int .i64 1)), none⟩, 
          ⟨some 7, .move (.t 21), none⟩] false))

def L64_0 : AC :=
  .seq
    (.seq
      (.ops [⟨some 9, .move (.t 5), none⟩, 
          ⟨some 10, .fieldA 3 (.t 3), none⟩, 
          ⟨some 11, .load false 1 (.t 10), none⟩, 
          ⟨some 12, .len (.t 11), none⟩, 
          ⟨some 13, .bin .lss (.t 9) (.t 12), none⟩] false)
      (.cond (.t 13)
        (.skip)
        (.exit 0)))
    (.seq
      (.block 1
        (.seq
          (.ops [⟨some 6, .move (.c (.bool false)), none⟩] false)
          (.seq
            (.seq
              (.ops [⟨some 7, .move (.c (.int .i64 0)), none⟩] false)
              (.block 2
                (.loop L64_1)))
            (.seq
              (.ops [⟨some 35, .move (.t 6), none⟩, 
                  ⟨some 36, .not (.t 35), none⟩] false)
              (.cond (.t 36)
                (.ops [⟨some 37, .move (.t 0), none⟩, 
                    ⟨some 38, .fieldA 3 (.t 3), none⟩, 
                    ⟨some 39, .load false 1 (.t 38), none⟩, 
                    ⟨some 40, .move (.t 5), none⟩, 
                    ⟨some 41, .idxA 4 (.t 39) (.t 40), none⟩, 
                    ⟨some 42, .load true 4 (.t 41), none⟩, 
                    ⟨some 43, .buildSl 4 [.int .i64 0, .str ⟨#[]⟩, .int .i64 0, .fsl 4 []] 1 [(0, .t 42)], none⟩, 
                    ⟨some 44, .append 56 4 56 (.t 37) (.t 43), none⟩, 
                    ⟨some 0, .move (.t 44), none⟩] false)
                (.skip))))))
      (.ops [⟨some 14, .move (.t 5), none⟩, 
          ⟨some 15, .bin .add (.t 14) (.c (.int .i64 1)), none⟩, 
          ⟨some 5, .move (.t 15), none⟩] false))

def L64_2 : AC :=
  .seq
    (.seq
      (.ops [⟨some 45, .move (.t 8), none⟩, 
          ⟨some 46, .fieldA 4 (.t 3), none⟩, 
          ⟨some 47, .load false 1 (.t 46), none⟩, 
          ⟨some 48, .len (.t 47), none⟩, 
          ⟨some 49, .bin .lss (.t 45) (.t 48), none⟩] false)
      (.cond (.t 49)
        (.skip)
        (.exit 4)))
    (.seq
      (.block 5
        (.ops [⟨some 52, .move (.t 0), none⟩, 
            ⟨some 53, .fieldA 4 (.t 3), none⟩, 
            ⟨some 54, .load false 1 (.t 53), none⟩, 
            ⟨some 55, .move (.t 8), none⟩, 
            ⟨some 56, .idxA 5 (.t 54) (.t 55), none⟩, 
            ⟨some 57, .load true 5 (.t 56), none⟩, 
            ⟨some 58, .call 64 [.t 52, .t 57], none⟩, 
            ⟨some 0, .move (.t 58), none⟩] false))
      (.ops [⟨some 50, .move (.t 8), none⟩, 
          ⟨some 51, .bin .add (.t 50) (.c (.int .i64 1)), none⟩, 
          ⟨some 8, .move (.t 51), none⟩] false))
def F64 : AF :=
  { ntmps := 60, results := [.tmp 4], pure := false, body :=
    .seq
      (.ops [⟨some 3, .box 25 (.t 1), none⟩, 
          ⟨some 4, .move (.c (.fsl 4 [])), none⟩] false)
      (.seq
        (.seq
          (.ops [⟨some 5, .move (.c (.int .i64 0)), none⟩] false)
          (.block 0
            (.loop L64_0)))
        (.seq
          (.seq
            (.ops [⟨some 8, .move (.c (.int .i64 0)), none⟩] false)
            (.block 4
              (.loop L64_2)))
          (.seq
            (.ops [⟨some 59, .move (.t 0), none⟩, 
                ⟨some 4, .move (.t 59), none⟩] false)
            (.ret)))) }

/- sequitur/sequiturref08.names -/
def L65_0 : AC :=
  .seq
    (.seq
      (.ops [⟨some 7, .move (.t 5), none⟩, 
          ⟨some 8, .fieldA 3 (.t 3), none⟩, 
          ⟨some 9, .load false 1 (.t 8), none⟩, 
          ⟨some 10, .len (.t 9), none⟩, 
          ⟨some 11, .bin .lss (.t 7) (.t 10), none⟩] false)
      (.cond (.t 11)
        (.skip)
        (.exit 0)))
    (.seq
      (.block 1
        (.ops [⟨some 14, .move (.t 0), none⟩, 
            ⟨some 15, .fieldA 3 (.t 3), none⟩, 
            ⟨some 16, .load false 1 (.t 15), none⟩, 
            ⟨some 17, .move (.t 5), none⟩, 
            ⟨some 18, .idxA 4 (.t 16) (.t 17), none⟩, 
            ⟨some 19, .load true 4 (.t 18), none⟩, 
            ⟨some 20, .call 78 [.t 14, .t 19], none⟩, 
            ⟨some 0, .move (.t 20), none⟩] false))
      (.ops [⟨some 12, .move (.t 5), none⟩, 
          ⟨some 13, .bin .add (.t 12) (.c (.int .i64 1)), none⟩, 
          ⟨some 5, .move (.t 13), none⟩] false))

def L65_1 : AC :=
  .seq
    (.seq
      (.ops [⟨some 21, .move (.t 6), none⟩, 
          ⟨some 22, .fieldA 4 (.t 3), none⟩, 
          ⟨some 23, .load false 1 (.t 22), none⟩, 
          ⟨some 24, .len (.t 23), none⟩, 
          ⟨some 25, .bin .lss (.t 21) (.t 24), none⟩] false)
      (.cond (.t 25)
        (.skip)
        (.exit 2)))
    (.seq
      (.block 3
        (.ops [⟨some 28, .move (.t 0), none⟩, 
            ⟨some 29, .fieldA 4 (.t 3), none⟩, 
            ⟨some 30, .load false 1 (.t 29), none⟩, 
            ⟨some 31, .move (.t 6), none⟩, 
            ⟨some 32, .idxA 5 (.t 30) (.t 31), none⟩, 
            ⟨some 33, .load true 5 (.t 32), none⟩, 
            ⟨some 34, .call 65 [.t 28, .t 33], none⟩, 
            ⟨some 0, .move (.t 34), none⟩] false))
      (.ops [⟨some 26, .move (.t 6), none⟩, 
          ⟨some 27, .bin .add (.t 26) (.c (.int .i64 1)), none⟩, 
          ⟨some 6, .move (.t 27), none⟩] false))
def F65 : AF :=
  { ntmps := 36, results := [.tmp 4], pure := true, body :=
    .seq
      (.ops [⟨some 3, .box 25 (.t 1), none⟩, 
          ⟨some 4, .move (.c (.fsl 1 [])), none⟩] false)
      (.seq
        (.seq
          (.ops [⟨some 5, .move (.c (.int .i64 0)), none⟩] false)
          (.block 0
            (.loop L65_0)))
        (.seq
          (.seq
            (.ops [⟨some 6, .move (.c (.int .i64 0)), none⟩] false)
            (.block 2
              (.loop L65_1)))
          (.seq
            (.ops [⟨some 35, .move (.t 0), none⟩, 
                ⟨some 4, .move (.t 35), none⟩] false)
            (.ret)))) }

/- sequitur/sequiturref08.atoms -/
def L66_0 : AC :=
  .seq
    (.seq
      (.ops [⟨some 19, .move (.t 5), none⟩, 
          ⟨some 20, .fieldA 4 (.t 3), none⟩, 
          ⟨some 21, .load false 1 (.t 20), none⟩, 
          ⟨some 22, .len (.t 21), none⟩, 
          ⟨some 23, .bin .lss (.t 19) (.t 22), none⟩] false)
      (.cond (.t 23)
        (.skip)
        (.exit 1)))
    (.seq
      (.block 2
        (.ops [⟨some 26, .move (.t 0), none⟩, 
            ⟨some 27, .fieldA 4 (.t 3), none⟩, 
            ⟨some 28, .load false 1 (.t 27), none⟩, 
            ⟨some 29, .move (.t 5), none⟩, 
            ⟨some 30, .idxA 5 (.t 28) (.t 29), none⟩, 
            ⟨some 31, .load true 5 (.t 30), none⟩, 
            ⟨some 32, .call 66 [.t 26, .t 31], none⟩, 
            ⟨some 0, .move (.t 32), none⟩] false))
      (.ops [⟨some 24, .move (.t 5), none⟩, 
          ⟨some 25, .bin .add (.t 24) (.c (.int .i64 1)), none⟩, 
          ⟨some 5, .move (.t 25), none⟩] false))

def L66_1 : AC :=
  .seq
    (.seq
      (.ops [⟨some 34, .move (.t 6), none⟩, 
          ⟨some 35, .move (.t 0), none⟩, 
          ⟨some 36, .len (.t 35), none⟩, 
          ⟨some 37, .bin .lss (.t 34) (.t 36), none⟩] false)
      (.cond (.t 37)
        (.skip)
        (.exit 3)))
    (.seq
      (.block 4
        (.seq
          (.ops [⟨some 40, .move (.t 0), none⟩, 
              ⟨some 41, .move (.t 6), none⟩, 
              ⟨some 42, .idxA 5 (.t 40) (.t 41), none⟩, 
              ⟨some 43, .load true 5 (.t 42), none⟩, 
              ⟨some 44, .load true 5 (.t 3), none⟩, 
              ⟨some 45, .call 12 [.t 43, .t 44], none⟩] true)
          (.cond (.t 45)
            (.seq
              (.ops [⟨some 46, .move (.t 0), none⟩, 
                  ⟨some 4, .move (.t 46), none⟩] false)
              (.ret))
            (.skip))))
      (.ops [⟨some 38, .move (.t 6), none⟩, 
          ⟨some 39, .bin .add (.t 38) (.c (.int .i64 1)), none⟩, 
          ⟨some 6, .move (.t 39), none⟩] false))
def F66 : AF :=
  { ntmps := 51, results := [.tmp 4], pure := false, body :=
    .seq
      (.ops [⟨some 3, .box 25 (.t 1), none⟩, 
          ⟨some 4, .move (.c (.fsl 5 [])), none⟩] false)
      (.seq
        (.seq
          (.ops [⟨some 7, .fieldA 0 (.t 3), none⟩, 
              ⟨some 8, .load false 1 (.t 7), none⟩] false)
          (.block 0
            (.seq
              (.seq
                (.ops [⟨some 10, .bin .eql (.t 8) (.c (.int .i64 1)), none⟩, 
                    ⟨some 9, .move (.t 10), none⟩] false)
                (.cond (.t 9)
                  (.skip)
                  (.ops [⟨some 11, .bin .eql (.t 8) (.c (.int .i64 2)), none⟩, 
                      ⟨some 9, .move (.t 11), none⟩] false)))
              (.cond (.t 9)
                (.seq
                  (.ops [⟨some 12, .move (.t 0), none⟩, 
                      ⟨some 4, .move (.t 12), none⟩] false)
                  (.ret))
                (.seq
                  (.seq
                    (.ops [⟨some 14, .bin .eql (.t 8) (.c (.int .i64 6)), none⟩, 
                        ⟨some 13, .move (.t 14), none⟩] false)
                    (.cond (.t 13)
                      (.skip)
                      (.seq
                        (.ops [⟨some 15, .bin .eql (.t 8) (.c (.int .i64 7)), none⟩, 
                            ⟨some 13, .move (.t 15), none⟩] false)
                        (.cond (.t 13)
                          (.skip)
                          (.seq
                            (.ops [⟨some 16, .bin .eql (.t 8) (.c (.int .i64 8)), none⟩, 
                                ⟨some 13, .move (.t 16), none⟩] false)
                            (.cond (.t 13)
                              (.skip)
                              (.seq
                                (.ops [⟨some 17, .bin .eql (.t 8) (.c (.int .i64 9)), none⟩, 
                                    ⟨some 13, .move (.t 17), none⟩] false)
                                (.cond (.t 13)
                                  (.skip)
                                  (.ops [⟨some 18, .bin .eql (.t 8) (.c (.int .i64 10)), none⟩, 
                                      ⟨some 13, .move (.t 18), none⟩] false)))))))))
                  (.cond (.t 13)
                    (.seq
                      (.seq
                        (.ops [⟨some 5, .move (.c (.int .i64 0)), none⟩] false)
                        (.block 1
                          (.loop L66_0)))
                      (.seq
                        (.ops [⟨some 33, .move (.t 0), none⟩, 
                            ⟨some 4, .move (.t 33), none⟩] false)
                        (.ret)))
                    (.skip)))))))
        (.seq
          (.seq
            (.ops [⟨some 6, .move (.c (.int .i64 0)), none⟩] false)
            (.block 3
              (.loop L66_1)))
          (.seq
            (.ops [⟨some 47, .move (.t 0), none⟩, 
                ⟨some 48, .load true 5 (.t 3), none⟩, 
                ⟨some 49, .buildSl 5 [.int .i64 0, .str ⟨#[]⟩, .str ⟨#[]⟩, .fsl 4 [], .fsl 5 []] 1 [(0, .t 48)], none⟩, 
                ⟨some 50, .append 25 5 88 (.t 47) (.t 49), none⟩, 
                ⟨some 4, .move (.t 50), none⟩] false)
            (.ret)))) }

/- sequitur/sequiturbase.Size -/
def L67_0 : AC :=
  .seq
    (.seq
      (.ops [⟨some 7, .move (.t 6), none⟩, 
          ⟨some 8, .fieldA 3 (.t 2), none⟩, 
          ⟨some 9, .load false 1 (.t 8), none⟩, 
          ⟨some 10, .len (.t 9), none⟩, 
          ⟨some 11, .bin .lss (.t 7) (.t 10), none⟩, 
          ⟨some 12, .move (.t 11), none⟩, 
          ⟨some 13, .move (.t 5), some (12, true)⟩, 
          ⟨some 14, .move (.t 1), some (12, true)⟩, 
          ⟨some 15, .bin .leq (.t 13) (.t 14), some (12, true)⟩, 
          ⟨some 16, .pick (.t 12) (.t 15) (.c (.bool false)), none⟩] false)
      (.cond (.t 16)
        (.skip)
        (.exit 0)))
    (.seq
      (.block 1
        (.ops [⟨some 19, .move (.t 5), none⟩, 
            ⟨some 20, .fieldA 3 (.t 2), none⟩, 
            ⟨some 21, .load false 1 (.t 20), none⟩, 
            ⟨some 22, .move (.t 6), none⟩, 
            ⟨some 23, .idxA 4 (.t 21) (.t 22), none⟩, 
            ⟨some 24, .load true 4 (.t 23), none⟩, 
            ⟨some 25, .move (.t 1), none⟩, 
            ⟨some 26, .move (.t 5), none⟩, 
            ⟨some 27, .bin .sub (.t 25) (.t 26), none⟩, 
            ⟨some 28, .call 67 [.t 24, .t 27], none⟩, 
            ⟨some 29, .bin .add (.t 19) (.t 28), none⟩, 
            ⟨some 5, .move (.t 29), none⟩] false))
      (.ops [⟨some 17, .move (.t 6), none⟩, 
          ⟨some 18, .bin .add (.t 17) (.c (.int .i64 1)), none⟩, 
          ⟨some 6, .move (.t 18), none⟩] false))
def F67 : AF :=
  { ntmps := 31, results := [.tmp 4], pure := true, body :=
    .seq
      (.ops [⟨some 2, .box 56 (.t 0), none⟩, 
          ⟨some 4, .move (.c (.int .i64 0)), none⟩] false)
      (.seq
        (.ops [⟨some 5, .move (.c (.int .i64 1)), none⟩] false)
        (.seq
          (.seq
            (.ops [⟨some 6, .move (.c (.int .i64 0)), none⟩] false)
            (.block 0
              (.loop L67_0)))
          (.seq
            (.ops [⟨some 30, .move (.t 5), none⟩, 
                ⟨some 4, .move (.t 30), none⟩] false)
            (.ret)))) }

/- cmp.isNaN[int] -/
def F68 : AF :=
  { ntmps := 6, results := [.tmp 2], pure := true, body :=
    .seq
      (.ops [⟨some 2, .move (.c (.bool false)), none⟩] false)
      (.seq
        (.ops [⟨some 3, .move (.t 0), none⟩, 
            ⟨some 4, .move (.t 0), none⟩, 
            ⟨some 5, .bin .neq (.t 3) (.t 4), none⟩, 
            ⟨some 2, .move (.t 5), none⟩] false)
        (.ret)) }

/- cmp.isNaN[string] -/
def F69 : AF :=
  { ntmps := 6, results := [.tmp 2], pure := true, body :=
    .seq
      (.ops [⟨some 2, .move (.c (.bool false)), none⟩] false)
      (.seq
        (.ops [⟨some 3, .move (.t 0), none⟩, 
            ⟨some 4, .move (.t 0), none⟩, 
            ⟨some 5, .bin .neq (.t 3) (.t 4), none⟩, 
            ⟨some 2, .move (.t 5), none⟩] false)
        (.ret)) }

/- cmp.Compare[int64] -/
def F70 : AF :=
  { ntmps := 20, results := [.tmp 4], pure := true, body :=
    .seq
      (.ops [⟨some 4, .move (.c (.int .i64 0)), none⟩] false)
      (.seq
        (.ops [⟨some 7, .move (.t 0), none⟩, 
            ⟨some 8, .call 79 [.t 7], none⟩, 
            ⟨some 5, .move (.t 8), none⟩] false)
        (.seq
          (.ops [⟨some 9, .move (.t 1), none⟩, 
              ⟨some 10, .call 79 [.t 9], none⟩, 
              ⟨some 6, .move (.t 10), none⟩] false)
          (.seq
            (.seq
              (.ops [⟨some 11, .move (.t 5), none⟩] false)
              (.cond (.t 11)
                (.seq
                  (.seq
                    (.ops [⟨some 12, .move (.t 6), none⟩] false)
                    (.cond (.t 12)
                      (.seq
                        (.ops [⟨some 4, .move (.c (.int .i64 0)), none⟩] false)
                        (.ret))
                      (.skip)))
                  (.seq
                    (.ops [⟨some 4, .move (.c (.int .i64 (-1))), none⟩] false)
                    (.ret)))
                (.skip)))
            (.seq
              (.seq
                (.ops [⟨some 13, .move (.t 6), none⟩] false)
                (.cond (.t 13)
                  (.seq
                    (.ops [⟨some 4, .move (.c (.int .i64 1)), none⟩] false)
                    (.ret))
                  (.skip)))
              (.seq
                (.seq
                  (.ops [⟨some 14, .move (.t 0), none⟩, 
                      ⟨some 15, .move (.t 1), none⟩, 
                      ⟨some 16, .bin .lss (.t 14) (.t 15), none⟩] false)
                  (.cond (.t 16)
                    (.seq
                      (.ops [⟨some 4, .move (.c (.int .i64 (-1))), none⟩] false)
                      (.ret))
                    (.skip)))
                (.seq
                  (.seq
                    (.ops [⟨some 17, .move (.t 0), none⟩, 
                        ⟨some 18, .move (.t 1), none⟩, 
                        ⟨some 19, .bin .gtr (.t 17) (.t 18), none⟩] false)
                    (.cond (.t 19)
                      (.seq
                        (.ops [⟨some 4, .move (.c (.int .i64 1)), none⟩] false)
                        (.ret))
                      (.skip)))
                  (.seq
                    (.ops [⟨some 4, .move (.c (.int .i64 0)), none⟩] false)
                    (.ret)))))))) }

/- slices.CompareFunc[[]sequitur/api.Term,[]sequitur/api.Term,sequitur/api.Term,sequitur/api.Term] -/
def L71_0 : AC :=
  .seq
    (.ops [⟨some 14, .bin .lss (.t 13) (.t 12), none⟩] false)
    (.seq
      (.cond (.t 14)
        (.skip)
        (.exit 0))
      (.seq
        (.block 1
          (.seq
            (.ops [⟨some 15, .move (.t 13), none⟩, 
                ⟨some 16, .idxA 4 (.t 11) (.t 13), none⟩, 
                ⟨some 17, .load true 4 (.t 16), none⟩, 
                ⟨some 8, .alloc 56 [.int .i64 0, .str ⟨#[]⟩, .int .i64 0, .fsl 4 []], none⟩, 
                ⟨some 7, .move (.t 15), none⟩, 
                ⟨none, .store 4 (.t 8) (.t 17), none⟩] false)
            (.seq
              (.seq
                (.ops [⟨some 18, .move (.t 7), none⟩, 
                    ⟨some 19, .move (.t 1), none⟩, 
                    ⟨some 20, .len (.t 19), none⟩, 
                    ⟨some 21, .bin .geq (.t 18) (.t 20), none⟩] false)
                (.cond (.t 21)
                  (.seq
                    (.ops [⟨some 6, .move (.c (.int .i64 1)), none⟩] false)
                    (.ret))
                  (.skip)))
              (.seq
                (.ops [⟨some 22, .move (.t 1), none⟩, 
                    ⟨some 23, .move (.t 7), none⟩, 
                    ⟨some 24, .idxA 4 (.t 22) (.t 23), none⟩, 
                    ⟨some 25, .load true 4 (.t 24), none⟩, 
                    ⟨some 9, .alloc 56 [.int .i64 0, .str ⟨#[]⟩, .int .i64 0, .fsl 4 []], none⟩, 
                    ⟨none, .store 4 (.t 9) (.t 25), none⟩] false)
                (.seq
                  (.ops [⟨some 26, .move (.t 2), none⟩, 
                      ⟨some 27, .load true 4 (.t 8), none⟩, 
                      ⟨some 28, .load true 4 (.t 9), none⟩, 
                      ⟨some 29, .callv (.t 26) [.t 27, .t 28], none⟩, 
                      ⟨some 10, .move (.t 29), none⟩] false)
                  (.seq
                    (.ops [⟨some 30, .move (.t 10), none⟩, 
                        ⟨some 31, .bin .neq (.t 30) (.c (.int .i64 0)), none⟩] false)
                    (.cond (.t 31)
                      (.seq
                        (.ops [⟨some 32, .move (.t 10), none⟩, 
                            ⟨some 6, .move (.t 32), none⟩] false)
                        (.ret))
                      (.skip))))))))
        (.ops [⟨some 33, .bin .add (.t 13) (.c (.int .i64 1)), none⟩, 
            ⟨some 13, .move (.t 33), none⟩] false)))
def F71 : AF :=
  { ntmps := 39, results := [.tmp 6], pure := true, body :=
    .seq
      (.ops [⟨some 6, .move (.c (.int .i64 0)), none⟩] false)
      (.seq
        (.seq
          (.ops [⟨some 11, .move (.t 0), none⟩, 
              ⟨some 12, .len (.t 11), none⟩, 
              ⟨some 13, .move (.c (.int .i64 0)), none⟩] false)
          (.block 0
            (.loop L71_0)))
        (.seq
          (.seq
            (.ops [⟨some 34, .move (.t 0), none⟩, 
                ⟨some 35, .len (.t 34), none⟩, 
                ⟨some 36, .move (.t 1), none⟩, 
                ⟨some 37, .len (.t 36), none⟩, 
                ⟨some 38, .bin .lss (.t 35) (.t 37), none⟩] false)
            (.cond (.t 38)
              (.seq
                (.ops [⟨some 6, .move (.c (.int .i64 (-1))), none⟩] false)
                (.ret))
              (.skip)))
          (.seq
            (.ops [⟨some 6, .move (.c (.int .i64 0)), none⟩] false)
            (.ret)))) }

/- slices.IndexFunc[[]sequitur/api.Claim,sequitur/api.Claim] -/
def L73_0 : AC :=
  .seq
    (.ops [⟨some 9, .bin .lss (.t 8) (.t 7), none⟩] false)
    (.seq
      (.cond (.t 9)
        (.skip)
        (.exit 0))
      (.seq
        (.block 1
          (.seq
            (.ops [⟨some 10, .move (.t 8), none⟩, 
                ⟨some 5, .move (.t 10), none⟩] false)
            (.seq
              (.ops [⟨some 11, .move (.t 1), none⟩, 
                  ⟨some 12, .move (.t 0), none⟩, 
                  ⟨some 13, .move (.t 5), none⟩, 
                  ⟨some 14, .idxA 5 (.t 12) (.t 13), none⟩, 
                  ⟨some 15, .load true 5 (.t 14), none⟩, 
                  ⟨some 16, .callv (.t 11) [.t 15], none⟩] false)
              (.cond (.t 16)
                (.seq
                  (.ops [⟨some 17, .move (.t 5), none⟩, 
                      ⟨some 4, .move (.t 17), none⟩] false)
                  (.ret))
                (.skip)))))
        (.ops [⟨some 18, .bin .add (.t 8) (.c (.int .i64 1)), none⟩, 
            ⟨some 8, .move (.t 18), none⟩] false)))
def F73 : AF :=
  { ntmps := 19, results := [.tmp 4], pure := true, body :=
    .seq
      (.ops [⟨some 4, .move (.c (.int .i64 0)), none⟩] false)
      (.seq
        (.seq
          (.ops [⟨some 6, .move (.t 0), none⟩, 
              ⟨some 7, .len (.t 6), none⟩, 
              ⟨some 8, .move (.c (.int .i64 0)), none⟩] false)
          (.block 0
            (.loop L73_0)))
        (.seq
          (.ops [⟨some 4, .move (.c (.int .i64 (-1))), none⟩] false)
          (.ret))) }

/- sequitur/term.all -/
def F74 : AF :=
  { ntmps := 4, results := [.tmp 2], pure := true, body :=
    .seq
      (.ops [⟨some 1, .box 56 (.t 0), none⟩, 
          ⟨some 2, .move (.c (.nilf)), none⟩] false)
      (.seq
        (.ops [⟨some 3, .mkfn (.func 80) [] [.t 1], none⟩, 
            ⟨some 2, .move (.t 3), none⟩] false)
        (.ret)) }

/- slices.IndexFunc[[]sequitur/api.Term,sequitur/api.Term] -/
def L77_0 : AC :=
  .seq
    (.ops [⟨some 9, .bin .lss (.t 8) (.t 7), none⟩] false)
    (.seq
      (.cond (.t 9)
        (.skip)
        (.exit 0))
      (.seq
        (.block 1
          (.seq
            (.ops [⟨some 10, .move (.t 8), none⟩, 
                ⟨some 5, .move (.t 10), none⟩] false)
            (.seq
              (.ops [⟨some 11, .move (.t 1), none⟩, 
                  ⟨some 12, .move (.t 0), none⟩, 
                  ⟨some 13, .move (.t 5), none⟩, 
                  ⟨some 14, .idxA 4 (.t 12) (.t 13), none⟩, 
                  ⟨some 15, .load true 4 (.t 14), none⟩, 
                  ⟨some 16, .callv (.t 11) [.t 15], none⟩] false)
              (.cond (.t 16)
                (.seq
                  (.ops [⟨some 17, .move (.t 5), none⟩, 
                      ⟨some 4, .move (.t 17), none⟩] false)
                  (.ret))
                (.skip)))))
        (.ops [⟨some 18, .bin .add (.t 8) (.c (.int .i64 1)), none⟩, 
            ⟨some 8, .move (.t 18), none⟩] false)))
def F77 : AF :=
  { ntmps := 19, results := [.tmp 4], pure := true, body :=
    .seq
      (.ops [⟨some 4, .move (.c (.int .i64 0)), none⟩] false)
      (.seq
        (.seq
          (.ops [⟨some 6, .move (.t 0), none⟩, 
              ⟨some 7, .len (.t 6), none⟩, 
              ⟨some 8, .move (.c (.int .i64 0)), none⟩] false)
          (.block 0
            (.loop L77_0)))
        (.seq
          (.ops [⟨some 4, .move (.c (.int .i64 (-1))), none⟩] false)
          (.ret))) }

/- sequitur/sequiturref08.termNames -/
def L78_0 : AC :=
  .seq
    (.seq
      (.ops [⟨some 13, .move (.t 5), none⟩, 
          ⟨some 14, .fieldA 3 (.t 3), none⟩, 
          ⟨some 15, .load false 1 (.t 14), none⟩, 
          ⟨some 16, .len (.t 15), none⟩, 
          ⟨some 17, .bin .lss (.t 13) (.t 16), none⟩] false)
      (.cond (.t 17)
        (.skip)
        (.exit 0)))
    (.seq
      (.block 1
        (.ops [⟨some 20, .move (.t 0), none⟩, 
            ⟨some 21, .fieldA 3 (.t 3), none⟩, 
            ⟨some 22, .load false 1 (.t 21), none⟩, 
            ⟨some 23, .move (.t 5), none⟩, 
            ⟨some 24, .idxA 4 (.t 22) (.t 23), none⟩, 
            ⟨some 25, .load true 4 (.t 24), none⟩, 
            ⟨some 26, .call 78 [.t 20, .t 25], none⟩, 
            ⟨some 0, .move (.t 26), none⟩] false))
      (.ops [⟨some 18, .move (.t 5), none⟩, 
          ⟨some 19, .bin .add (.t 18) (.c (.int .i64 1)), none⟩, 
          ⟨some 5, .move (.t 19), none⟩] false))
def F78 : AF :=
  { ntmps := 28, results := [.tmp 4], pure := true, body :=
    .seq
      (.ops [⟨some 3, .box 56 (.t 1), none⟩, 
          ⟨some 4, .move (.c (.fsl 1 [])), none⟩] false)
      (.seq
        (.seq
          (.ops [⟨some 6, .fieldA 0 (.t 3), none⟩, 
              ⟨some 7, .load false 1 (.t 6), none⟩, 
              ⟨some 8, .bin .eql (.t 7) (.c (.int .i64 1)), none⟩] false)
          (.cond (.t 8)
            (.ops [⟨some 9, .move (.t 0), none⟩, 
                ⟨some 10, .fieldA 1 (.t 3), none⟩, 
                ⟨some 11, .load false 1 (.t 10), none⟩, 
                ⟨some 12, .call 84 [.t 9, .t 11], none⟩, 
                ⟨some 0, .move (.t 12), none⟩] false)
            (.skip)))
        (.seq
          (.seq
            (.ops [⟨some 5, .move (.c (.int .i64 0)), none⟩] false)
            (.block 0
              (.loop L78_0)))
          (.seq
            (.ops [⟨some 27, .move (.t 0), none⟩, 
                ⟨some 4, .move (.t 27), none⟩] false)
            (.ret)))) }

/- cmp.isNaN[int64] -/
def F79 : AF :=
  { ntmps := 6, results := [.tmp 2], pure := true, body :=
    .seq
      (.ops [⟨some 2, .move (.c (.bool false)), none⟩] false)
      (.seq
        (.ops [⟨some 3, .move (.t 0), none⟩, 
            ⟨some 4, .move (.t 0), none⟩, 
            ⟨some 5, .bin .neq (.t 3) (.t 4), none⟩, 
            ⟨some 2, .move (.t 5), none⟩] false)
        (.ret)) }

/- sequitur/term.all$1 -/
def F80 : AF :=
  { ntmps := 6, results := [], pure := false, body :=
    .ops [⟨some 3, .load true 4 (.t 1), none⟩, 
        ⟨some 4, .move (.t 0), none⟩, 
        ⟨some 5, .call 81 [.t 3, .t 4], none⟩] false }

/- sequitur/term.walk -/
def L81_0 : AC :=
  .seq
    (.ops [⟨some 15, .bin .lss (.t 14) (.t 13), none⟩] false)
    (.seq
      (.cond (.t 15)
        (.skip)
        (.exit 0))
      (.seq
        (.block 1
          (.seq
            (.ops [⟨some 16, .idxA 4 (.t 12) (.t 14), none⟩, 
                ⟨some 17, .load true 4 (.t 16), none⟩, 
                ⟨some 6, .alloc 56 [.int .i64 0, .str ⟨#[]⟩, .int .i64 0, .fsl 4 []], none⟩, 
                ⟨none, .store 4 (.t 6) (.t 17), none⟩] false)
            (.seq
              (.ops [⟨some 18, .load true 4 (.t 6), none⟩, 
                  ⟨some 19, .move (.t 1), none⟩, 
                  ⟨some 20, .call 81 [.t 18, .t 19], none⟩, 
                  ⟨some 21, .not (.t 20), none⟩] false)
              (.cond (.t 21)
                (.seq
                  (.ops [⟨some 4, .move (.c (.bool false)), none⟩] false)
                  (.ret))
                (.skip)))))
        (.ops [⟨some 22, .bin .add (.t 14) (.c (.int .i64 1)), none⟩, 
            ⟨some 14, .move (.t 22), none⟩] false)))
def F81 : AF :=
  { ntmps := 23, results := [.tmp 4], pure := false, body :=
    .seq
      (.ops [⟨some 2, .box 56 (.t 0), none⟩, 
          ⟨some 4, .move (.c (.bool false)), none⟩] false)
      (.seq
        (.seq
          (.ops [⟨some 7, .move (.t 1), none⟩, 
              ⟨some 8, .load true 4 (.t 2), none⟩, 
              ⟨some 9, .callv (.t 7) [.t 8], none⟩, 
              ⟨some 10, .not (.t 9), none⟩] false)
          (.cond (.t 10)
            (.seq
              (.ops [⟨some 4, .move (.c (.bool false)), none⟩] false)
              (.ret))
            (.skip)))
        (.seq
          (.seq
            (.ops [⟨some 11, .fieldA 3 (.t 2), none⟩, 
                ⟨some 12, .load false 1 (.t 11), none⟩, 
                ⟨some 13, .len (.t 12), none⟩, 
                ⟨some 14, .move (.c (.int .i64 0)), none⟩] false)
            (.block 0
              (.loop L81_0)))
          (.seq
            (.ops [⟨some 4, .move (.c (.bool true)), none⟩] false)
            (.ret)))) }

/- sequitur/sequiturref08.put -/
def L84_0 : AC :=
  .seq
    (.seq
      (.ops [⟨some 7, .move (.t 5), none⟩, 
          ⟨some 8, .move (.t 0), none⟩, 
          ⟨some 9, .len (.t 8), none⟩, 
          ⟨some 10, .bin .lss (.t 7) (.t 9), none⟩, 
          ⟨some 11, .move (.t 10), none⟩, 
          ⟨some 12, .move (.t 0), some (11, true)⟩, 
          ⟨some 13, .move (.t 5), some (11, true)⟩, 
          ⟨some 14, .idxA 1 (.t 12) (.t 13), some (11, true)⟩, 
          ⟨some 15, .load false 1 (.t 14), some (11, true)⟩, 
          ⟨some 16, .move (.t 1), some (11, true)⟩, 
          ⟨some 17, .bin .lss (.t 15) (.t 16), some (11, true)⟩, 
          ⟨some 18, .pick (.t 11) (.t 17) (.c (.bool false)), none⟩] false)
      (.cond (.t 18)
        (.skip)
        (.exit 0)))
    (.block 1
      (.ops [⟨some 19, .move (.t 5), none⟩, 
          ⟨some 20, .bin .add (.t 19) (.c (.int .i64 1)), none⟩, 
          ⟨some 5, .move (.t 20), none⟩] false))
def F84 : AF :=
  { ntmps := 48, results := [.tmp 4], pure := true, body :=
    .seq
      (.ops [⟨some 4, .move (.c (.fsl 1 [])), none⟩] false)
      (.seq
        (.ops [⟨some 5, .move (.c (.int .i64 0)), none⟩] false)
        (.seq
          (.block 0
            (.loop L84_0))
          (.seq
            (.seq
              (.ops [⟨some 21, .move (.t 5), none⟩, 
                  ⟨some 22, .move (.t 0), none⟩, 
                  ⟨some 23, .len (.t 22), none⟩, 
                  ⟨some 24, .bin .lss (.t 21) (.t 23), none⟩, 
                  ⟨some 25, .move (.t 24), none⟩, 
                  ⟨some 26, .move (.t 0), some (25, true)⟩, 
                  ⟨some 27, .move (.t 5), some (25, true)⟩, 
                  ⟨some 28, .idxA 1 (.t 26) (.t 27), some (25, true)⟩, 
                  ⟨some 29, .load false 1 (.t 28), some (25, true)⟩, 
                  ⟨some 30, .move (.t 1), some (25, true)⟩, 
                  ⟨some 31, .bin .eql (.t 29) (.t 30), some (25, true)⟩, 
                  ⟨some 32, .pick (.t 25) (.t 31) (.c (.bool false)), none⟩] false)
              (.cond (.t 32)
                (.seq
                  (.ops [⟨some 33, .move (.t 0), none⟩, 
                      ⟨some 4, .move (.t 33), none⟩] false)
                  (.ret))
                (.skip)))
            (.seq
              (.ops [⟨some 6, .move (.c (.fsl 1 [])), none⟩] false)
              (.seq
                (.ops [⟨some 34, .move (.t 6), none⟩, 
                    ⟨some 35, .move (.t 0), none⟩, 
                    ⟨some 36, .move (.t 5), none⟩, 
                    ⟨some 37, .slice 1 (.t 35) none (some (.t 36)) none, none⟩, 
                    ⟨some 38, .append 9 1 16 (.t 34) (.t 37), none⟩, 
                    ⟨some 6, .move (.t 38), none⟩] false)
                (.seq
                  (.ops [⟨some 39, .move (.t 6), none⟩, 
                      ⟨some 40, .move (.t 1), none⟩, 
                      ⟨some 41, .buildSl 1 [.str ⟨#[]⟩] 1 [(0, .t 40)], none⟩, 
                      ⟨some 42, .append 9 1 16 (.t 39) (.t 41), none⟩, 
                      ⟨some 6, .move (.t 42), none⟩] false)
                  (.seq
                    (.ops [⟨some 43, .move (.t 6), none⟩, 
                        ⟨some 44, .move (.t 0), none⟩, 
                        ⟨some 45, .move (.t 5), none⟩, 
                        ⟨some 46, .slice 1 (.t 44) (some (.t 45)) none none, none⟩, 
                        ⟨some 47, .append 9 1 16 (.t 43) (.t 46), none⟩, 
                        ⟨some 4, .move (.t 47), none⟩] false)
                    (.ret)))))))) }

def T : Tab
  | 3 => some F3
  | 4 => some F4
  | 5 => some F5
  | 7 => some F7
  | 8 => some F8
  | 9 => some F9
  | 10 => some F10
  | 11 => some F11
  | 12 => some F12
  | 13 => some F13
  | 14 => some F14
  | 15 => some F15
  | 16 => some F16
  | 17 => some F17
  | 18 => some F18
  | 19 => some F19
  | 20 => some F20
  | 21 => some F21
  | 22 => some F22
  | 23 => some F23
  | 24 => some F24
  | 28 => some F28
  | 29 => some F29
  | 30 => some F30
  | 31 => some F31
  | 32 => some F32
  | 33 => some F33
  | 34 => some F34
  | 35 => some F35
  | 36 => some F36
  | 37 => some F37
  | 38 => some F38
  | 39 => some F39
  | 40 => some F40
  | 41 => some F41
  | 42 => some F42
  | 43 => some F43
  | 44 => some F44
  | 45 => some F45
  | 46 => some F46
  | 47 => some F47
  | 48 => some F48
  | 49 => some F49
  | 53 => some F53
  | 54 => some F54
  | 55 => some F55
  | 56 => some F56
  | 57 => some F57
  | 58 => some F58
  | 59 => some F59
  | 60 => some F60
  | 61 => some F61
  | 62 => some F62
  | 63 => some F63
  | 64 => some F64
  | 65 => some F65
  | 66 => some F66
  | 67 => some F67
  | 68 => some F68
  | 69 => some F69
  | 70 => some F70
  | 71 => some F71
  | 73 => some F73
  | 74 => some F74
  | 77 => some F77
  | 78 => some F78
  | 79 => some F79
  | 80 => some F80
  | 81 => some F81
  | 84 => some F84
  | _ => none

end Go.Proofs.Ytpenaaljaahanaa.A
