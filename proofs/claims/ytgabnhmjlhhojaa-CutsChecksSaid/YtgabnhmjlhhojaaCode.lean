/- The functions that the seat reaches, in the interpreter's own code (by gen.py from the loaded program; checked against it in the text behind). -/
import Derived.Test.YtgabnhmjlhhojaaAbs
namespace Go.Proofs.Ytgabnhmjlhhojaa.A
open Go

/- sequitur/sequiturlaw31.CutsRights -/
def F3 : AF :=
  { ntmps := 29, results := [.tmp 2], pure := true, body :=
    .seq
      (.ops [⟨some 1, .box 29 (.t 0), none⟩, 
          ⟨some 2, .move (.c (.bool false)), none⟩] false)
      (.seq
        (.seq
          (.ops [⟨some 3, .load true 7 (.t 1), none⟩, 
              ⟨some 4, .call 9 [.t 3, .c (.int .i64 6000)], none⟩, 
              ⟨some 5, .bin .gtr (.t 4) (.c (.int .i64 6000)), none⟩] false)
          (.cond (.t 5)
            (.seq
              (.ops [⟨some 6, .call 10 [], none⟩, 
                  ⟨some 2, .move (.t 6), none⟩] false)
              (.ret))
            (.skip)))
        (.seq
          (.ops [⟨some 7, .load true 7 (.t 1), none⟩, 
              ⟨some 8, .call 11 [.t 7], none⟩, 
              ⟨some 9, .load true 7 (.t 1), none⟩, 
              ⟨some 10, .call 12 [.t 9], none⟩, 
              ⟨some 11, .bin .eql (.t 8) (.t 10), none⟩, 
              ⟨some 12, .move (.t 11), none⟩, 
              ⟨some 13, .load true 7 (.t 1), some (12, true)⟩, 
              ⟨some 14, .call 13 [.t 13], some (12, true)⟩, 
              ⟨some 15, .load true 7 (.t 1), some (12, true)⟩, 
              ⟨some 16, .call 14 [.t 15], some (12, true)⟩, 
              ⟨some 17, .bin .eql (.t 14) (.t 16), some (12, true)⟩, 
              ⟨some 18, .pick (.t 12) (.t 17) (.c (.bool false)), none⟩, 
              ⟨some 19, .move (.t 18), none⟩, 
              ⟨some 20, .load true 7 (.t 1), some (19, true)⟩, 
              ⟨some 21, .call 15 [.t 20], some (19, true)⟩, 
              ⟨some 22, .load true 7 (.t 1), some (19, true)⟩, 
              ⟨some 23, .call 16 [.t 22], some (19, true)⟩, 
              ⟨some 24, .bin .eql (.t 21) (.t 23), some (19, true)⟩, 
              ⟨some 25, .pick (.t 19) (.t 24) (.c (.bool false)), none⟩, 
              ⟨some 26, .move (.t 25), none⟩, 
              ⟨some 27, .call 10 [], some (26, true)⟩, 
              ⟨some 28, .pick (.t 26) (.t 27) (.c (.bool false)), none⟩, 
              ⟨some 2, .move (.t 28), none⟩] true)
          (.ret))) }

/- sequitur/sequiturlaw31.CutsChecks -/
def F4 : AF :=
  { ntmps := 39, results := [.tmp 4], pure := true, body :=
    .seq
      (.ops [⟨some 3, .box 29 (.t 1), none⟩, 
          ⟨some 4, .move (.c (.bool false)), none⟩] false)
      (.seq
        (.seq
          (.ops [⟨some 8, .load true 7 (.t 3), none⟩, 
              ⟨some 9, .call 17 [.t 8], none⟩, 
              ⟨some 10, .not (.t 9), none⟩, 
              ⟨some 11, .move (.t 10), none⟩, 
              ⟨some 12, .move (.t 0), some (11, false)⟩, 
              ⟨some 13, .call 18 [.c (.int .i64 60), .t 12], some (11, false)⟩, 
              ⟨some 14, .not (.t 13), some (11, false)⟩, 
              ⟨some 15, .pick (.t 11) (.c (.bool true)) (.t 14), none⟩] false)
          (.cond (.t 15)
            (.seq
              (.ops [⟨some 16, .call 10 [], none⟩, 
                  ⟨some 4, .move (.t 16), none⟩] false)
              (.ret))
            (.skip)))
        (.seq
          (.ops [⟨some 18, .move (.t 0), none⟩, 
              ⟨some 19, .load true 7 (.t 3), none⟩, 
              ⟨some 20, .call 19 [.t 18, .t 19], none⟩, 
              ⟨some 17, .move (.t 20), none⟩, 
              ⟨some 21, .extract (.t 17) 0, none⟩, 
              ⟨some 22, .extract (.t 17) 1, none⟩, 
              ⟨some 5, .move (.t 21), none⟩, 
              ⟨some 6, .move (.t 22), none⟩] false)
          (.seq
            (.ops [⟨some 23, .move (.t 0), none⟩, 
                ⟨some 24, .load true 7 (.t 3), none⟩, 
                ⟨some 25, .call 20 [.t 23, .t 24], none⟩, 
                ⟨some 7, .alloc 41 [.fsl 1 [], .int .i64 0], none⟩, 
                ⟨none, .store 2 (.t 7) (.t 25), none⟩] false)
            (.seq
              (.ops [⟨some 26, .move (.t 5), none⟩, 
                  ⟨some 27, .fieldA 0 (.t 7), none⟩, 
                  ⟨some 28, .load false 1 (.t 27), none⟩, 
                  ⟨some 29, .call 21 [.t 26, .t 28], none⟩, 
                  ⟨some 30, .move (.t 29), none⟩, 
                  ⟨some 31, .move (.t 6), some (30, true)⟩, 
                  ⟨some 32, .fieldA 1 (.t 7), some (30, true)⟩, 
                  ⟨some 33, .load false 1 (.t 32), some (30, true)⟩, 
                  ⟨some 34, .bin .eql (.t 31) (.t 33), some (30, true)⟩, 
                  ⟨some 35, .pick (.t 30) (.t 34) (.c (.bool false)), none⟩, 
                  ⟨some 36, .move (.t 35), none⟩, 
                  ⟨some 37, .call 10 [], some (36, true)⟩, 
                  ⟨some 38, .pick (.t 36) (.t 37) (.c (.bool false)), none⟩, 
                  ⟨some 4, .move (.t 38), none⟩] false)
              (.ret))))) }

/- sequitur/sequiturlaw31.CutsMany -/
def L5_0 : AC :=
  .seq
    (.seq
      (.ops [⟨some 22, .move (.t 9), none⟩, 
          ⟨some 23, .move (.t 6), none⟩, 
          ⟨some 24, .bin .lss (.t 22) (.t 23), none⟩] false)
      (.cond (.t 24)
        (.skip)
        (.exit 0)))
    (.seq
      (.block 1
        (.ops [⟨some 27, .buildSl 1 [.int .i64 0] 1 [(0, .c (.int .i64 0))], none⟩, 
            ⟨some 28, .buildSl 1 [.int .i64 0] 1 [(0, .c (.int .i64 1))], none⟩, 
            ⟨some 29, .load true 7 (.t 8), none⟩, 
            ⟨some 30, .call 23 [.t 27, .t 28, .c (.int .i64 1), .t 29], none⟩, 
            ⟨none, .store 7 (.t 8) (.t 30), none⟩] false))
      (.ops [⟨some 25, .move (.t 9), none⟩, 
          ⟨some 26, .bin .add (.t 25) (.c (.int .i64 1)), none⟩, 
          ⟨some 9, .move (.t 26), none⟩] false))
def F5 : AF :=
  { ntmps := 76, results := [.tmp 4], pure := true, body :=
    .seq
      (.ops [⟨some 4, .move (.c (.bool false)), none⟩] false)
      (.seq
        (.ops [⟨some 12, .move (.t 0), none⟩, 
            ⟨some 13, .conv .i64 (.t 12), none⟩, 
            ⟨some 14, .bin .rem (.t 13) (.c (.int .i64 30)), none⟩, 
            ⟨some 15, .bin .add (.c (.int .i64 1000)) (.t 14), none⟩, 
            ⟨some 16, .move (.t 1), none⟩, 
            ⟨some 17, .conv .i64 (.t 16), none⟩, 
            ⟨some 18, .bin .rem (.t 17) (.c (.int .i64 40)), none⟩, 
            ⟨some 5, .move (.t 15), none⟩, 
            ⟨some 6, .move (.t 18), none⟩] false)
        (.seq
          (.ops [⟨some 19, .move (.t 5), none⟩, 
              ⟨some 20, .mksl 3 [.int .i64 0, .fsl 2 [], .bool false] (.t 19), none⟩, 
              ⟨some 7, .move (.t 20), none⟩] false)
          (.seq
            (.ops [⟨some 21, .call 22 [.c (.int .i64 0)], none⟩, 
                ⟨some 8, .alloc 29 [.int .i64 0, .fsl 1 [], .fsl 1 [], .int .i64 0, .int .i64 0, .fsl 2 [], .fsl 7 []], none⟩, 
                ⟨none, .store 7 (.t 8) (.t 21), none⟩] false)
            (.seq
              (.seq
                (.ops [⟨some 9, .move (.c (.int .i64 0)), none⟩] false)
                (.block 0
                  (.loop L5_0)))
              (.seq
                (.ops [⟨some 32, .move (.t 7), none⟩, 
                    ⟨some 33, .load true 7 (.t 8), none⟩, 
                    ⟨some 34, .call 19 [.t 32, .t 33], none⟩, 
                    ⟨some 31, .move (.t 34), none⟩, 
                    ⟨some 35, .extract (.t 31) 0, none⟩, 
                    ⟨some 36, .extract (.t 31) 1, none⟩, 
                    ⟨some 10, .move (.t 35), none⟩, 
                    ⟨some 11, .move (.t 36), none⟩] false)
                (.seq
                  (.seq
                    (.ops [⟨some 37, .move (.t 5), none⟩, 
                        ⟨some 38, .bin .gtr (.t 37) (.c (.int .i64 1024)), none⟩] false)
                    (.cond (.t 38)
                      (.seq
                        (.ops [⟨some 39, .move (.t 11), none⟩, 
                            ⟨some 40, .bin .eql (.t 39) (.c (.int .i64 2)), none⟩, 
                            ⟨some 41, .move (.t 40), none⟩, 
                            ⟨some 42, .move (.t 10), some (41, true)⟩, 
                            ⟨some 43, .len (.t 42), some (41, true)⟩, 
                            ⟨some 44, .bin .eql (.t 43) (.c (.int .i64 0)), some (41, true)⟩, 
                            ⟨some 45, .pick (.t 41) (.t 44) (.c (.bool false)), none⟩, 
                            ⟨some 46, .move (.t 45), none⟩, 
                            ⟨some 47, .call 10 [], some (46, true)⟩, 
                            ⟨some 48, .pick (.t 46) (.t 47) (.c (.bool false)), none⟩, 
                            ⟨some 4, .move (.t 48), none⟩] false)
                        (.ret))
                      (.skip)))
                  (.seq
                    (.seq
                      (.ops [⟨some 49, .move (.t 5), none⟩, 
                          ⟨some 50, .move (.t 6), none⟩, 
                          ⟨some 51, .bin .add (.t 49) (.t 50), none⟩, 
                          ⟨some 52, .bin .gtr (.t 51) (.c (.int .i64 1024)), none⟩] false)
                      (.cond (.t 52)
                        (.seq
                          (.ops [⟨some 53, .move (.t 11), none⟩, 
                              ⟨some 54, .bin .eql (.t 53) (.c (.int .i64 2)), none⟩, 
                              ⟨some 55, .move (.t 54), none⟩, 
                              ⟨some 56, .move (.t 10), some (55, true)⟩, 
                              ⟨some 57, .len (.t 56), some (55, true)⟩, 
                              ⟨some 58, .move (.t 5), some (55, true)⟩, 
                              ⟨some 59, .bin .sub (.c (.int .i64 1024)) (.t 58), some (55, true)⟩, 
                              ⟨some 60, .bin .eql (.t 57) (.t 59), some (55, true)⟩, 
                              ⟨some 61, .pick (.t 55) (.t 60) (.c (.bool false)), none⟩, 
                              ⟨some 62, .move (.t 61), none⟩, 
                              ⟨some 63, .call 10 [], some (62, true)⟩, 
                              ⟨some 64, .pick (.t 62) (.t 63) (.c (.bool false)), none⟩, 
                              ⟨some 4, .move (.t 64), none⟩] false)
                          (.ret))
                        (.skip)))
                    (.seq
                      (.ops [⟨some 65, .move (.t 11), none⟩, 
                          ⟨some 66, .bin .eql (.t 65) (.c (.int .i64 30)), none⟩, 
                          ⟨some 67, .move (.t 66), none⟩, 
                          ⟨some 68, .move (.t 10), some (67, true)⟩, 
                          ⟨some 69, .len (.t 68), some (67, true)⟩, 
                          ⟨some 70, .move (.t 6), some (67, true)⟩, 
                          ⟨some 71, .bin .eql (.t 69) (.t 70), some (67, true)⟩, 
                          ⟨some 72, .pick (.t 67) (.t 71) (.c (.bool false)), none⟩, 
                          ⟨some 73, .move (.t 72), none⟩, 
                          ⟨some 74, .call 10 [], some (73, true)⟩, 
                          ⟨some 75, .pick (.t 73) (.t 74) (.c (.bool false)), none⟩, 
                          ⟨some 4, .move (.t 75), none⟩] false)
                      (.ret))))))))) }

/- sequitur/sequiturlaw31.CutsMore -/
def L6_0 : AC :=
  .seq
    (.seq
      (.ops [⟨some 27, .move (.t 8), none⟩, 
          ⟨some 28, .move (.t 1), none⟩, 
          ⟨some 29, .len (.t 28), none⟩, 
          ⟨some 30, .bin .lss (.t 27) (.t 29), none⟩] false)
      (.cond (.t 30)
        (.skip)
        (.exit 0)))
    (.seq
      (.block 1
        (.seq
          (.ops [⟨some 33, .move (.t 1), none⟩, 
              ⟨some 34, .move (.t 8), none⟩, 
              ⟨some 35, .idxA 3 (.t 33) (.t 34), none⟩, 
              ⟨some 36, .load true 3 (.t 35), none⟩, 
              ⟨some 37, .call 24 [.t 36], none⟩, 
              ⟨some 38, .bin .neq (.t 37) (.c (.int .i64 0)), none⟩] false)
          (.cond (.t 38)
            (.seq
              (.ops [⟨some 39, .call 10 [], none⟩, 
                  ⟨some 6, .move (.t 39), none⟩] false)
              (.ret))
            (.skip))))
      (.ops [⟨some 31, .move (.t 8), none⟩, 
          ⟨some 32, .bin .add (.t 31) (.c (.int .i64 1)), none⟩, 
          ⟨some 8, .move (.t 32), none⟩] false))
def F6 : AF :=
  { ntmps := 70, results := [.tmp 6], pure := true, body :=
    .seq
      (.ops [⟨some 5, .box 29 (.t 2), none⟩, 
          ⟨some 6, .move (.c (.bool false)), none⟩] false)
      (.seq
        (.ops [⟨some 13, .buildSl 3 [.int .i64 0, .fsl 2 [], .bool false] 0 [], none⟩, 
            ⟨some 14, .move (.t 0), none⟩, 
            ⟨some 15, .append 51 3 40 (.t 13) (.t 14), none⟩, 
            ⟨some 16, .move (.t 1), none⟩, 
            ⟨some 17, .append 51 3 40 (.t 15) (.t 16), none⟩, 
            ⟨some 7, .move (.t 17), none⟩] false)
        (.seq
          (.seq
            (.ops [⟨some 18, .load true 7 (.t 5), none⟩, 
                ⟨some 19, .call 17 [.t 18], none⟩, 
                ⟨some 20, .not (.t 19), none⟩, 
                ⟨some 21, .move (.t 20), none⟩, 
                ⟨some 22, .move (.t 7), some (21, false)⟩, 
                ⟨some 23, .call 18 [.c (.int .i64 60), .t 22], some (21, false)⟩, 
                ⟨some 24, .not (.t 23), some (21, false)⟩, 
                ⟨some 25, .pick (.t 21) (.c (.bool true)) (.t 24), none⟩] false)
            (.cond (.t 25)
              (.seq
                (.ops [⟨some 26, .call 10 [], none⟩, 
                    ⟨some 6, .move (.t 26), none⟩] false)
                (.ret))
              (.skip)))
          (.seq
            (.seq
              (.ops [⟨some 8, .move (.c (.int .i64 0)), none⟩] false)
              (.block 0
                (.loop L6_0)))
            (.seq
              (.ops [⟨some 41, .move (.t 0), none⟩, 
                  ⟨some 42, .load true 7 (.t 5), none⟩, 
                  ⟨some 43, .call 19 [.t 41, .t 42], none⟩, 
                  ⟨some 40, .move (.t 43), none⟩, 
                  ⟨some 44, .extract (.t 40) 0, none⟩, 
                  ⟨some 45, .extract (.t 40) 1, none⟩, 
                  ⟨some 9, .move (.t 44), none⟩, 
                  ⟨some 10, .move (.t 45), none⟩] false)
              (.seq
                (.seq
                  (.ops [⟨some 46, .move (.t 10), none⟩, 
                      ⟨some 47, .bin .neq (.t 46) (.c (.int .i64 0)), none⟩] false)
                  (.cond (.t 47)
                    (.seq
                      (.ops [⟨some 48, .call 10 [], none⟩, 
                          ⟨some 6, .move (.t 48), none⟩] false)
                      (.ret))
                    (.skip)))
                (.seq
                  (.ops [⟨some 50, .move (.t 7), none⟩, 
                      ⟨some 51, .load true 7 (.t 5), none⟩, 
                      ⟨some 52, .move (.t 0), none⟩, 
                      ⟨some 53, .len (.t 52), none⟩, 
                      ⟨some 54, .move (.t 1), none⟩, 
                      ⟨some 55, .len (.t 54), none⟩, 
                      ⟨some 56, .call 25 [.t 51, .t 53, .t 55], none⟩, 
                      ⟨some 57, .call 19 [.t 50, .t 56], none⟩, 
                      ⟨some 49, .move (.t 57), none⟩, 
                      ⟨some 58, .extract (.t 49) 0, none⟩, 
                      ⟨some 59, .extract (.t 49) 1, none⟩, 
                      ⟨some 11, .move (.t 58), none⟩, 
                      ⟨some 12, .move (.t 59), none⟩] false)
                  (.seq
                    (.ops [⟨some 60, .move (.t 12), none⟩, 
                        ⟨some 61, .bin .eql (.t 60) (.c (.int .i64 0)), none⟩, 
                        ⟨some 62, .move (.t 61), none⟩, 
                        ⟨some 63, .move (.t 9), some (62, true)⟩, 
                        ⟨some 64, .move (.t 11), some (62, true)⟩, 
                        ⟨some 65, .call 21 [.t 63, .t 64], some (62, true)⟩, 
                        ⟨some 66, .pick (.t 62) (.t 65) (.c (.bool false)), none⟩, 
                        ⟨some 67, .move (.t 66), none⟩, 
                        ⟨some 68, .call 10 [], some (67, true)⟩, 
                        ⟨some 69, .pick (.t 67) (.t 68) (.c (.bool false)), none⟩, 
                        ⟨some 6, .move (.t 69), none⟩] false)
                    (.ret)))))))) }

/- sequitur/sequiturlaw31.CutsSound -/
def F7 : AF :=
  { ntmps := 45, results := [.tmp 6], pure := true, body :=
    .seq
      (.ops [⟨some 4, .box 29 (.t 1), none⟩, 
          ⟨some 6, .move (.c (.bool false)), none⟩] false)
      (.seq
        (.seq
          (.ops [⟨some 11, .load true 7 (.t 4), none⟩, 
              ⟨some 12, .call 17 [.t 11], none⟩, 
              ⟨some 13, .not (.t 12), none⟩, 
              ⟨some 14, .move (.t 13), none⟩, 
              ⟨some 15, .move (.t 0), some (14, false)⟩, 
              ⟨some 16, .call 18 [.c (.int .i64 60), .t 15], some (14, false)⟩, 
              ⟨some 17, .not (.t 16), some (14, false)⟩, 
              ⟨some 18, .pick (.t 14) (.c (.bool true)) (.t 17), none⟩] false)
          (.cond (.t 18)
            (.seq
              (.ops [⟨some 19, .call 10 [], none⟩, 
                  ⟨some 6, .move (.t 19), none⟩] false)
              (.ret))
            (.skip)))
        (.seq
          (.ops [⟨some 21, .move (.t 0), none⟩, 
              ⟨some 22, .load true 7 (.t 4), none⟩, 
              ⟨some 23, .call 19 [.t 21, .t 22], none⟩, 
              ⟨some 20, .move (.t 23), none⟩, 
              ⟨some 24, .extract (.t 20) 0, none⟩, 
              ⟨some 25, .extract (.t 20) 1, none⟩, 
              ⟨some 7, .move (.t 24), none⟩, 
              ⟨some 8, .move (.t 25), none⟩] false)
          (.seq
            (.ops [⟨some 27, .move (.t 0), none⟩, 
                ⟨some 28, .move (.t 2), none⟩, 
                ⟨some 29, .call 26 [.t 27, .t 28], none⟩, 
                ⟨some 26, .move (.t 29), none⟩, 
                ⟨some 30, .extract (.t 26) 0, none⟩, 
                ⟨some 31, .extract (.t 26) 1, none⟩, 
                ⟨some 9, .move (.t 30), none⟩, 
                ⟨some 10, .move (.t 31), none⟩] false)
            (.seq
              (.ops [⟨some 32, .move (.t 8), none⟩, 
                  ⟨some 33, .bin .neq (.t 32) (.c (.int .i64 0)), none⟩, 
                  ⟨some 34, .move (.t 33), none⟩, 
                  ⟨some 35, .move (.t 10), some (34, false)⟩, 
                  ⟨some 36, .bin .neq (.t 35) (.c (.int .i64 0)), some (34, false)⟩, 
                  ⟨some 37, .pick (.t 34) (.c (.bool true)) (.t 36), none⟩, 
                  ⟨some 38, .move (.t 37), none⟩, 
                  ⟨some 39, .move (.t 9), some (38, false)⟩, 
                  ⟨some 40, .bin .geq (.t 39) (.c (.int .i64 0)), some (38, false)⟩, 
                  ⟨some 41, .pick (.t 38) (.c (.bool true)) (.t 40), none⟩, 
                  ⟨some 42, .move (.t 41), none⟩, 
                  ⟨some 43, .call 10 [], some (42, true)⟩, 
                  ⟨some 44, .pick (.t 42) (.t 43) (.c (.bool false)), none⟩, 
                  ⟨some 6, .move (.t 44), none⟩] false)
              (.ret))))) }

/- sequitur/sequiturlaw31.CutsBuilds -/
def F8 : AF :=
  { ntmps := 100, results := [.tmp 14], pure := true, body :=
    .seq
      (.ops [⟨some 7, .box 29 (.t 0), none⟩, 
          ⟨some 8, .box 29 (.t 1), none⟩, 
          ⟨some 12, .box 26 (.t 5), none⟩, 
          ⟨some 14, .move (.c (.bool false)), none⟩] false)
      (.seq
        (.seq
          (.ops [⟨some 19, .load true 7 (.t 7), none⟩, 
              ⟨some 20, .call 17 [.t 19], none⟩, 
              ⟨some 21, .not (.t 20), none⟩, 
              ⟨some 22, .move (.t 21), none⟩, 
              ⟨some 23, .load true 7 (.t 8), some (22, false)⟩, 
              ⟨some 24, .call 17 [.t 23], some (22, false)⟩, 
              ⟨some 25, .not (.t 24), some (22, false)⟩, 
              ⟨some 26, .pick (.t 22) (.c (.bool true)) (.t 25), none⟩, 
              ⟨some 27, .move (.t 26), none⟩, 
              ⟨some 28, .move (.t 2), some (27, false)⟩, 
              ⟨some 29, .len (.t 28), some (27, false)⟩, 
              ⟨some 30, .move (.t 3), some (27, false)⟩, 
              ⟨some 31, .len (.t 30), some (27, false)⟩, 
              ⟨some 32, .bin .add (.t 29) (.t 31), some (27, false)⟩, 
              ⟨some 33, .fieldA 1 (.t 12), some (27, false)⟩, 
              ⟨some 34, .load false 1 (.t 33), some (27, false)⟩, 
              ⟨some 35, .len (.t 34), some (27, false)⟩, 
              ⟨some 36, .bin .add (.t 32) (.t 35), some (27, false)⟩, 
              ⟨some 37, .bin .gtr (.t 36) (.c (.int .i64 400)), some (27, false)⟩, 
              ⟨some 38, .pick (.t 27) (.c (.bool true)) (.t 37), none⟩] false)
          (.cond (.t 38)
            (.seq
              (.ops [⟨some 39, .call 10 [], none⟩, 
                  ⟨some 14, .move (.t 39), none⟩] false)
              (.ret))
            (.skip)))
        (.seq
          (.ops [⟨some 40, .move (.t 2), none⟩, 
              ⟨some 41, .move (.t 3), none⟩, 
              ⟨some 42, .move (.t 4), none⟩, 
              ⟨some 43, .load true 7 (.t 7), none⟩, 
              ⟨some 44, .call 23 [.t 40, .t 41, .t 42, .t 43], none⟩, 
              ⟨some 15, .alloc 29 [.int .i64 0, .fsl 1 [], .fsl 1 [], .int .i64 0, .int .i64 0, .fsl 2 [], .fsl 7 []], none⟩, 
              ⟨none, .store 7 (.t 15) (.t 44), none⟩] false)
          (.seq
            (.ops [⟨some 45, .load true 2 (.t 12), none⟩, 
                ⟨some 46, .load true 7 (.t 7), none⟩, 
                ⟨some 47, .load true 7 (.t 8), none⟩, 
                ⟨some 48, .call 27 [.t 45, .t 46, .t 47], none⟩, 
                ⟨some 16, .alloc 29 [.int .i64 0, .fsl 1 [], .fsl 1 [], .int .i64 0, .int .i64 0, .fsl 2 [], .fsl 7 []], none⟩, 
                ⟨none, .store 7 (.t 16) (.t 48), none⟩] false)
            (.seq
              (.ops [⟨some 49, .move (.t 6), none⟩, 
                  ⟨some 50, .call 22 [.t 49], none⟩, 
                  ⟨some 17, .alloc 29 [.int .i64 0, .fsl 1 [], .fsl 1 [], .int .i64 0, .int .i64 0, .fsl 2 [], .fsl 7 []], none⟩, 
                  ⟨none, .store 7 (.t 17) (.t 50), none⟩] false)
              (.seq
                (.seq
                  (.ops [⟨some 51, .load true 7 (.t 15), none⟩, 
                      ⟨some 52, .move (.t 2), none⟩, 
                      ⟨some 53, .move (.t 3), none⟩, 
                      ⟨some 54, .move (.t 4), none⟩, 
                      ⟨some 55, .load true 7 (.t 7), none⟩, 
                      ⟨some 56, .buildSl 7 [.int .i64 0, .fsl 1 [], .fsl 1 [], .int .i64 0, .int .i64 0, .fsl 2 [], .fsl 7 []] 1 [(0, .t 55)], none⟩, 
                      ⟨some 57, .build [.int .i64 0, .fsl 1 [], .fsl 1 [], .int .i64 0, .int .i64 0, .fsl 2 [], .fsl 7 []] [(0, 1, .c (.int .i64 2)), (1, 1, .t 52), (2, 1, .t 53), (3, 1, .t 54), (6, 1, .t 56)], none⟩, 
                      ⟨some 58, .call 28 [.t 51, .t 57], none⟩, 
                      ⟨some 59, .not (.t 58), none⟩, 
                      ⟨some 60, .move (.t 59), none⟩, 
                      ⟨some 61, .load true 7 (.t 16), some (60, false)⟩, 
                      ⟨some 62, .load true 2 (.t 12), some (60, false)⟩, 
                      ⟨some 63, .load true 7 (.t 7), some (60, false)⟩, 
                      ⟨some 64, .load true 7 (.t 8), some (60, false)⟩, 
                      ⟨some 65, .buildSl 7 [.int .i64 0, .fsl 1 [], .fsl 1 [], .int .i64 0, .int .i64 0, .fsl 2 [], .fsl 7 []] 2 [(0, .t 63), (1, .t 64)], some (60, false)⟩, 
                      ⟨some 66, .build [.int .i64 0, .fsl 1 [], .fsl 1 [], .int .i64 0, .int .i64 0, .fsl 2 [], .fsl 7 []] [(0, 1, .c (.int .i64 3)), (4, 2, .t 62), (6, 1, .t 65)], some (60, false)⟩, 
                      ⟨some 67, .call 28 [.t 61, .t 66], some (60, false)⟩, 
                      ⟨some 68, .not (.t 67), some (60, false)⟩, 
                      ⟨some 69, .pick (.t 60) (.c (.bool true)) (.t 68), none⟩] false)
                  (.cond (.t 69)
                    (.seq
                      (.ops [⟨some 14, .move (.c (.bool false)), none⟩] false)
                      (.ret))
                    (.skip)))
                (.seq
                  (.seq
                    (.ops [⟨some 70, .load true 7 (.t 17), none⟩, 
                        ⟨some 71, .move (.t 6), none⟩, 
                        ⟨some 72, .buildSl 1 [.int .i64 0] 1 [(0, .t 71)], none⟩, 
                        ⟨some 73, .build [.int .i64 0, .fsl 1 [], .fsl 1 [], .int .i64 0, .int .i64 0, .fsl 2 [], .fsl 7 []] [(0, 1, .c (.int .i64 1)), (1, 1, .t 72)], none⟩, 
                        ⟨some 74, .call 28 [.t 70, .t 73], none⟩, 
                        ⟨some 75, .not (.t 74), none⟩, 
                        ⟨some 76, .move (.t 75), none⟩, 
                        ⟨some 77, .load true 7 (.t 15), some (76, false)⟩, 
                        ⟨some 78, .move (.t 6), some (76, false)⟩, 
                        ⟨some 79, .move (.t 4), some (76, false)⟩, 
                        ⟨some 80, .call 25 [.t 77, .t 78, .t 79], some (76, false)⟩, 
                        ⟨some 81, .load true 7 (.t 15), some (76, false)⟩, 
                        ⟨some 82, .move (.t 6), some (76, false)⟩, 
                        ⟨some 83, .move (.t 4), some (76, false)⟩, 
                        ⟨some 84, .call 29 [.t 81, .t 82, .t 83], some (76, false)⟩, 
                        ⟨some 85, .call 28 [.t 80, .t 84], some (76, false)⟩, 
                        ⟨some 86, .not (.t 85), some (76, false)⟩, 
                        ⟨some 87, .pick (.t 76) (.c (.bool true)) (.t 86), none⟩] true)
                    (.cond (.t 87)
                      (.seq
                        (.ops [⟨some 14, .move (.c (.bool false)), none⟩] false)
                        (.ret))
                      (.skip)))
                  (.seq
                    (.ops [⟨some 88, .move (.t 6), none⟩, 
                        ⟨some 89, .min2 (.t 88) (.c (.int .i64 500)), none⟩, 
                        ⟨some 18, .move (.t 89), none⟩] false)
                    (.seq
                      (.ops [⟨some 90, .load true 7 (.t 16), none⟩, 
                          ⟨some 91, .move (.t 18), none⟩, 
                          ⟨some 92, .call 30 [.t 90, .t 91], none⟩, 
                          ⟨some 93, .load true 7 (.t 16), none⟩, 
                          ⟨some 94, .move (.t 18), none⟩, 
                          ⟨some 95, .call 31 [.t 93, .t 94], none⟩, 
                          ⟨some 96, .call 21 [.t 92, .t 95], none⟩, 
                          ⟨some 97, .move (.t 96), none⟩, 
                          ⟨some 98, .call 10 [], some (97, true)⟩, 
                          ⟨some 99, .pick (.t 97) (.t 98) (.c (.bool false)), none⟩, 
                          ⟨some 14, .move (.t 99), none⟩] true)
                      (.ret))))))))) }

/- sequitur/sequiturref31.Weigh -/
def L9_0 : AC :=
  .seq
    (.seq
      (.ops [⟨some 20, .move (.t 6), none⟩, 
          ⟨some 21, .fieldA 6 (.t 2), none⟩, 
          ⟨some 22, .load false 1 (.t 21), none⟩, 
          ⟨some 23, .len (.t 22), none⟩, 
          ⟨some 24, .bin .lss (.t 20) (.t 23), none⟩, 
          ⟨some 25, .move (.t 24), none⟩, 
          ⟨some 26, .move (.t 5), some (25, true)⟩, 
          ⟨some 27, .move (.t 1), some (25, true)⟩, 
          ⟨some 28, .bin .leq (.t 26) (.t 27), some (25, true)⟩, 
          ⟨some 29, .pick (.t 25) (.t 28) (.c (.bool false)), none⟩] false)
      (.cond (.t 29)
        (.skip)
        (.exit 0)))
    (.seq
      (.block 1
        (.ops [⟨some 32, .move (.t 5), none⟩, 
            ⟨some 33, .fieldA 6 (.t 2), none⟩, 
            ⟨some 34, .load false 1 (.t 33), none⟩, 
            ⟨some 35, .move (.t 6), none⟩, 
            ⟨some 36, .idxA 7 (.t 34) (.t 35), none⟩, 
            ⟨some 37, .load true 7 (.t 36), none⟩, 
            ⟨some 38, .move (.t 1), none⟩, 
            ⟨some 39, .move (.t 5), none⟩, 
            ⟨some 40, .bin .sub (.t 38) (.t 39), none⟩, 
            ⟨some 41, .call 9 [.t 37, .t 40], none⟩, 
            ⟨some 42, .bin .add (.t 32) (.t 41), none⟩, 
            ⟨some 5, .move (.t 42), none⟩] false))
      (.ops [⟨some 30, .move (.t 6), none⟩, 
          ⟨some 31, .bin .add (.t 30) (.c (.int .i64 1)), none⟩, 
          ⟨some 6, .move (.t 31), none⟩] false))
def F9 : AF :=
  { ntmps := 44, results := [.tmp 4], pure := true, body :=
    .seq
      (.ops [⟨some 2, .box 29 (.t 0), none⟩, 
          ⟨some 4, .move (.c (.int .i64 0)), none⟩] false)
      (.seq
        (.ops [⟨some 7, .fieldA 1 (.t 2), none⟩, 
            ⟨some 8, .load false 1 (.t 7), none⟩, 
            ⟨some 9, .len (.t 8), none⟩, 
            ⟨some 10, .bin .add (.c (.int .i64 1)) (.t 9), none⟩, 
            ⟨some 11, .fieldA 2 (.t 2), none⟩, 
            ⟨some 12, .load false 1 (.t 11), none⟩, 
            ⟨some 13, .len (.t 12), none⟩, 
            ⟨some 14, .bin .add (.t 10) (.t 13), none⟩, 
            ⟨some 15, .fieldA 4 (.t 2), none⟩, 
            ⟨some 16, .fieldA 1 (.t 15), none⟩, 
            ⟨some 17, .load false 1 (.t 16), none⟩, 
            ⟨some 18, .len (.t 17), none⟩, 
            ⟨some 19, .bin .add (.t 14) (.t 18), none⟩, 
            ⟨some 5, .move (.t 19), none⟩] false)
        (.seq
          (.seq
            (.ops [⟨some 6, .move (.c (.int .i64 0)), none⟩] false)
            (.block 0
              (.loop L9_0)))
          (.seq
            (.ops [⟨some 43, .move (.t 5), none⟩, 
                ⟨some 4, .move (.t 43), none⟩] false)
            (.ret)))) }

/- sequitur/sequiturlaw31.goes -/
def F10 : AF :=
  { ntmps := 41, results := [.tmp 0], pure := true, body :=
    .seq
      (.ops [⟨some 0, .move (.c (.bool false)), none⟩] false)
      (.seq
        (.ops [⟨some 6, .build [.int .i64 0, .int .i64 0] [(0, 1, .c (.int .i64 0)), (1, 1, .c (.int .i64 1))], none⟩, 
            ⟨some 7, .buildSl 2 [.int .i64 0, .int .i64 0] 1 [(0, .t 6)], none⟩, 
            ⟨some 8, .build [.int .i64 0, .fsl 2 []] [(0, 1, .c (.int .i64 (-3))), (1, 1, .t 7)], none⟩, 
            ⟨some 9, .build [.int .i64 0, .fsl 2 [], .bool false] [(0, 2, .t 8)], none⟩, 
            ⟨some 10, .build [.int .i64 0, .int .i64 0] [(0, 1, .c (.int .i64 0)), (1, 1, .c (.int .i64 (-1)))], none⟩, 
            ⟨some 11, .buildSl 2 [.int .i64 0, .int .i64 0] 1 [(0, .t 10)], none⟩, 
            ⟨some 12, .build [.int .i64 0, .fsl 2 []] [(0, 1, .c (.int .i64 4)), (1, 1, .t 11)], none⟩, 
            ⟨some 13, .build [.int .i64 0, .fsl 2 [], .bool false] [(0, 2, .t 12)], none⟩, 
            ⟨some 14, .buildSl 3 [.int .i64 0, .fsl 2 [], .bool false] 2 [(0, .t 9), (1, .t 13)], none⟩, 
            ⟨some 1, .move (.t 14), none⟩] false)
        (.seq
          (.ops [⟨some 16, .move (.t 1), none⟩, 
              ⟨some 17, .buildSl 1 [.int .i64 0] 2 [(0, .c (.int .i64 0)), (1, .c (.int .i64 1))], none⟩, 
              ⟨some 18, .buildSl 1 [.int .i64 0] 2 [(0, .c (.int .i64 1)), (1, .c (.int .i64 1))], none⟩, 
              ⟨some 19, .call 22 [.c (.int .i64 2)], none⟩, 
              ⟨some 20, .call 23 [.t 17, .t 18, .c (.int .i64 1), .t 19], none⟩, 
              ⟨some 21, .call 19 [.t 16, .t 20], none⟩, 
              ⟨some 15, .move (.t 21), none⟩, 
              ⟨some 22, .extract (.t 15) 0, none⟩, 
              ⟨some 23, .extract (.t 15) 1, none⟩, 
              ⟨some 2, .move (.t 22), none⟩, 
              ⟨some 3, .move (.t 23), none⟩] false)
          (.seq
            (.ops [⟨some 25, .move (.t 1), none⟩, 
                ⟨some 26, .call 22 [.c (.int .i64 0)], none⟩, 
                ⟨some 27, .call 19 [.t 25, .t 26], none⟩, 
                ⟨some 24, .move (.t 27), none⟩, 
                ⟨some 28, .extract (.t 24) 0, none⟩, 
                ⟨some 29, .extract (.t 24) 1, none⟩, 
                ⟨some 4, .move (.t 28), none⟩, 
                ⟨some 5, .move (.t 29), none⟩] false)
            (.seq
              (.ops [⟨some 30, .move (.t 2), none⟩, 
                  ⟨some 31, .len (.t 30), none⟩, 
                  ⟨some 32, .bin .eql (.t 31) (.c (.int .i64 0)), none⟩, 
                  ⟨some 33, .move (.t 32), none⟩, 
                  ⟨some 34, .move (.t 3), some (33, true)⟩, 
                  ⟨some 35, .bin .eql (.t 34) (.c (.int .i64 0)), some (33, true)⟩, 
                  ⟨some 36, .pick (.t 33) (.t 35) (.c (.bool false)), none⟩, 
                  ⟨some 37, .move (.t 36), none⟩, 
                  ⟨some 38, .move (.t 5), some (37, true)⟩, 
                  ⟨some 39, .bin .eql (.t 38) (.c (.int .i64 30)), some (37, true)⟩, 
                  ⟨some 40, .pick (.t 37) (.t 39) (.c (.bool false)), none⟩, 
                  ⟨some 0, .move (.t 40), none⟩] false)
              (.ret))))) }

/- sequitur/cuts.Right -/
def F11 : AF :=
  { ntmps := 19, results := [.tmp 2], pure := true, body :=
    .seq
      (.ops [⟨some 1, .box 29 (.t 0), none⟩, 
          ⟨some 2, .move (.c (.int .i64 0)), none⟩] false)
      (.seq
        (.block 0
          (.seq
            (.ops [⟨some 6, .load true 7 (.t 1), none⟩, 
                ⟨some 7, .call 15 [.t 6], none⟩, 
                ⟨some 8, .bin .gtr (.t 7) (.c (.int .i64 1024)), none⟩, 
                ⟨some 5, .move (.t 8), none⟩] false)
            (.cond (.t 5)
              (.seq
                (.ops [⟨some 2, .move (.c (.int .i64 6)), none⟩] false)
                (.ret))
              (.seq
                (.ops [⟨some 10, .load true 7 (.t 1), none⟩, 
                    ⟨some 11, .call 13 [.t 10], none⟩, 
                    ⟨some 12, .bin .gtr (.t 11) (.c (.int .i64 4096)), none⟩, 
                    ⟨some 9, .move (.t 12), none⟩] false)
                (.cond (.t 9)
                  (.seq
                    (.ops [⟨some 2, .move (.c (.int .i64 2)), none⟩] false)
                    (.ret))
                  (.skip))))))
        (.seq
          (.ops [⟨some 14, .load true 7 (.t 1), none⟩, 
              ⟨some 15, .call 32 [.t 14, .c (.fsl 1 []), .f 33], none⟩, 
              ⟨some 13, .move (.t 15), none⟩, 
              ⟨some 16, .extract (.t 13) 0, none⟩, 
              ⟨some 17, .extract (.t 13) 1, none⟩, 
              ⟨some 3, .move (.t 16), none⟩, 
              ⟨some 4, .move (.t 17), none⟩] false)
          (.seq
            (.ops [⟨some 18, .move (.t 4), none⟩, 
                ⟨some 2, .move (.t 18), none⟩] false)
            (.ret)))) }

/- sequitur/sequiturref31.Right -/
def F12 : AF :=
  { ntmps := 11, results := [.tmp 2], pure := true, body :=
    .seq
      (.ops [⟨some 1, .box 29 (.t 0), none⟩, 
          ⟨some 2, .move (.c (.int .i64 0)), none⟩] false)
      (.seq
        (.seq
          (.ops [⟨some 3, .load true 7 (.t 1), none⟩, 
              ⟨some 4, .call 16 [.t 3], none⟩, 
              ⟨some 5, .bin .gtr (.t 4) (.c (.int .i64 1024)), none⟩] false)
          (.cond (.t 5)
            (.seq
              (.ops [⟨some 2, .move (.c (.int .i64 6)), none⟩] false)
              (.ret))
            (.skip)))
        (.seq
          (.seq
            (.ops [⟨some 6, .load true 7 (.t 1), none⟩, 
                ⟨some 7, .call 14 [.t 6], none⟩, 
                ⟨some 8, .bin .gtr (.t 7) (.c (.int .i64 4096)), none⟩] false)
            (.cond (.t 8)
              (.seq
                (.ops [⟨some 2, .move (.c (.int .i64 2)), none⟩] false)
                (.ret))
              (.skip)))
          (.seq
            (.ops [⟨some 9, .load true 7 (.t 1), none⟩, 
                ⟨some 10, .call 34 [.t 9], none⟩, 
                ⟨some 2, .move (.t 10), none⟩] false)
            (.ret)))) }

/- sequitur/cuts.Size -/
def L13_0 : AC :=
  .seq
    (.ops [⟨some 10, .bin .lss (.t 9) (.t 8), none⟩] false)
    (.seq
      (.cond (.t 10)
        (.skip)
        (.exit 0))
      (.seq
        (.block 1
          (.seq
            (.ops [⟨some 11, .idxA 7 (.t 7) (.t 9), none⟩, 
                ⟨some 12, .load true 7 (.t 11), none⟩, 
                ⟨some 5, .alloc 29 [.int .i64 0, .fsl 1 [], .fsl 1 [], .int .i64 0, .int .i64 0, .fsl 2 [], .fsl 7 []], none⟩, 
                ⟨none, .store 7 (.t 5) (.t 12), none⟩] false)
            (.ops [⟨some 13, .move (.t 3), none⟩, 
                ⟨some 14, .load true 7 (.t 5), none⟩, 
                ⟨some 15, .call 13 [.t 14], none⟩, 
                ⟨some 16, .bin .add (.t 13) (.t 15), none⟩, 
                ⟨some 3, .move (.t 16), none⟩] false)))
        (.ops [⟨some 17, .bin .add (.t 9) (.c (.int .i64 1)), none⟩, 
            ⟨some 9, .move (.t 17), none⟩] false)))
def F13 : AF :=
  { ntmps := 19, results := [.tmp 2], pure := true, body :=
    .seq
      (.ops [⟨some 1, .box 29 (.t 0), none⟩, 
          ⟨some 2, .move (.c (.int .i64 0)), none⟩] false)
      (.seq
        (.ops [⟨some 3, .move (.c (.int .i64 1)), none⟩] false)
        (.seq
          (.seq
            (.ops [⟨some 6, .fieldA 6 (.t 1), none⟩, 
                ⟨some 7, .load false 1 (.t 6), none⟩, 
                ⟨some 8, .len (.t 7), none⟩, 
                ⟨some 9, .move (.c (.int .i64 0)), none⟩] false)
            (.block 0
              (.loop L13_0)))
          (.seq
            (.ops [⟨some 18, .move (.t 3), none⟩, 
                ⟨some 2, .move (.t 18), none⟩] false)
            (.ret)))) }

/- sequitur/sequiturref31.Size -/
def L14_0 : AC :=
  .seq
    (.seq
      (.ops [⟨some 5, .move (.t 4), none⟩, 
          ⟨some 6, .fieldA 6 (.t 1), none⟩, 
          ⟨some 7, .load false 1 (.t 6), none⟩, 
          ⟨some 8, .len (.t 7), none⟩, 
          ⟨some 9, .bin .lss (.t 5) (.t 8), none⟩] false)
      (.cond (.t 9)
        (.skip)
        (.exit 0)))
    (.seq
      (.block 1
        (.ops [⟨some 12, .move (.t 3), none⟩, 
            ⟨some 13, .fieldA 6 (.t 1), none⟩, 
            ⟨some 14, .load false 1 (.t 13), none⟩, 
            ⟨some 15, .move (.t 4), none⟩, 
            ⟨some 16, .idxA 7 (.t 14) (.t 15), none⟩, 
            ⟨some 17, .load true 7 (.t 16), none⟩, 
            ⟨some 18, .call 14 [.t 17], none⟩, 
            ⟨some 19, .bin .add (.t 12) (.t 18), none⟩, 
            ⟨some 3, .move (.t 19), none⟩] false))
      (.ops [⟨some 10, .move (.t 4), none⟩, 
          ⟨some 11, .bin .add (.t 10) (.c (.int .i64 1)), none⟩, 
          ⟨some 4, .move (.t 11), none⟩] false))
def F14 : AF :=
  { ntmps := 21, results := [.tmp 2], pure := true, body :=
    .seq
      (.ops [⟨some 1, .box 29 (.t 0), none⟩, 
          ⟨some 2, .move (.c (.int .i64 0)), none⟩] false)
      (.seq
        (.ops [⟨some 3, .move (.c (.int .i64 1)), none⟩] false)
        (.seq
          (.seq
            (.ops [⟨some 4, .move (.c (.int .i64 0)), none⟩] false)
            (.block 0
              (.loop L14_0)))
          (.seq
            (.ops [⟨some 20, .move (.t 3), none⟩, 
                ⟨some 2, .move (.t 20), none⟩] false)
            (.ret)))) }

/- sequitur/cuts.Depth -/
def L15_0 : AC :=
  .seq
    (.ops [⟨some 10, .bin .lss (.t 9) (.t 8), none⟩] false)
    (.seq
      (.cond (.t 10)
        (.skip)
        (.exit 0))
      (.seq
        (.block 1
          (.seq
            (.ops [⟨some 11, .idxA 7 (.t 7) (.t 9), none⟩, 
                ⟨some 12, .load true 7 (.t 11), none⟩, 
                ⟨some 5, .alloc 29 [.int .i64 0, .fsl 1 [], .fsl 1 [], .int .i64 0, .int .i64 0, .fsl 2 [], .fsl 7 []], none⟩, 
                ⟨none, .store 7 (.t 5) (.t 12), none⟩] false)
            (.ops [⟨some 13, .move (.t 3), none⟩, 
                ⟨some 14, .load true 7 (.t 5), none⟩, 
                ⟨some 15, .call 15 [.t 14], none⟩, 
                ⟨some 16, .max2 (.t 13) (.t 15), none⟩, 
                ⟨some 3, .move (.t 16), none⟩] false)))
        (.ops [⟨some 17, .bin .add (.t 9) (.c (.int .i64 1)), none⟩, 
            ⟨some 9, .move (.t 17), none⟩] false)))
def F15 : AF :=
  { ntmps := 20, results := [.tmp 2], pure := true, body :=
    .seq
      (.ops [⟨some 1, .box 29 (.t 0), none⟩, 
          ⟨some 2, .move (.c (.int .i64 0)), none⟩] false)
      (.seq
        (.ops [⟨some 3, .move (.c (.int .i64 0)), none⟩] false)
        (.seq
          (.seq
            (.ops [⟨some 6, .fieldA 6 (.t 1), none⟩, 
                ⟨some 7, .load false 1 (.t 6), none⟩, 
                ⟨some 8, .len (.t 7), none⟩, 
                ⟨some 9, .move (.c (.int .i64 0)), none⟩] false)
            (.block 0
              (.loop L15_0)))
          (.seq
            (.ops [⟨some 18, .move (.t 3), none⟩, 
                ⟨some 19, .bin .add (.t 18) (.c (.int .i64 1)), none⟩, 
                ⟨some 2, .move (.t 19), none⟩] false)
            (.ret)))) }

/- sequitur/sequiturref31.Depth -/
def L16_0 : AC :=
  .seq
    (.seq
      (.ops [⟨some 5, .move (.t 4), none⟩, 
          ⟨some 6, .fieldA 6 (.t 1), none⟩, 
          ⟨some 7, .load false 1 (.t 6), none⟩, 
          ⟨some 8, .len (.t 7), none⟩, 
          ⟨some 9, .bin .lss (.t 5) (.t 8), none⟩] false)
      (.cond (.t 9)
        (.skip)
        (.exit 0)))
    (.seq
      (.block 1
        (.ops [⟨some 12, .move (.t 3), none⟩, 
            ⟨some 13, .fieldA 6 (.t 1), none⟩, 
            ⟨some 14, .load false 1 (.t 13), none⟩, 
            ⟨some 15, .move (.t 4), none⟩, 
            ⟨some 16, .idxA 7 (.t 14) (.t 15), none⟩, 
            ⟨some 17, .load true 7 (.t 16), none⟩, 
            ⟨some 18, .call 16 [.t 17], none⟩, 
            ⟨some 19, .bin .add (.c (.int .i64 1)) (.t 18), none⟩, 
            ⟨some 20, .max2 (.t 12) (.t 19), none⟩, 
            ⟨some 3, .move (.t 20), none⟩] false))
      (.ops [⟨some 10, .move (.t 4), none⟩, 
          ⟨some 11, .bin .add (.t 10) (.c (.int .i64 1)), none⟩, 
          ⟨some 4, .move (.t 11), none⟩] false))
def F16 : AF :=
  { ntmps := 22, results := [.tmp 2], pure := true, body :=
    .seq
      (.ops [⟨some 1, .box 29 (.t 0), none⟩, 
          ⟨some 2, .move (.c (.int .i64 0)), none⟩] false)
      (.seq
        (.ops [⟨some 3, .move (.c (.int .i64 1)), none⟩] false)
        (.seq
          (.seq
            (.ops [⟨some 4, .move (.c (.int .i64 0)), none⟩] false)
            (.block 0
              (.loop L16_0)))
          (.seq
            (.ops [⟨some 21, .move (.t 3), none⟩, 
                ⟨some 2, .move (.t 21), none⟩] false)
            (.ret)))) }

/- sequitur/sequiturlaw31.Small -/
def F17 : AF :=
  { ntmps := 6, results := [.tmp 2], pure := true, body :=
    .seq
      (.ops [⟨some 1, .box 29 (.t 0), none⟩, 
          ⟨some 2, .move (.c (.bool false)), none⟩] false)
      (.seq
        (.ops [⟨some 3, .load true 7 (.t 1), none⟩, 
            ⟨some 4, .call 9 [.t 3, .c (.int .i64 400)], none⟩, 
            ⟨some 5, .bin .leq (.t 4) (.c (.int .i64 400)), none⟩, 
            ⟨some 2, .move (.t 5), none⟩] false)
        (.ret)) }

/- sequitur/sequiturlaw28.Short -/
def L18_0 : AC :=
  .seq
    (.seq
      (.ops [⟨some 6, .move (.t 5), none⟩, 
          ⟨some 7, .move (.t 1), none⟩, 
          ⟨some 8, .len (.t 7), none⟩, 
          ⟨some 9, .bin .lss (.t 6) (.t 8), none⟩] false)
      (.cond (.t 9)
        (.skip)
        (.exit 0)))
    (.seq
      (.block 1
        (.seq
          (.ops [⟨some 12, .move (.t 1), none⟩, 
              ⟨some 13, .move (.t 5), none⟩, 
              ⟨some 14, .idxA 3 (.t 12) (.t 13), none⟩, 
              ⟨some 15, .fieldA 0 (.t 14), none⟩, 
              ⟨some 16, .fieldA 1 (.t 15), none⟩, 
              ⟨some 17, .load false 1 (.t 16), none⟩, 
              ⟨some 18, .len (.t 17), none⟩, 
              ⟨some 19, .bin .gtr (.t 18) (.c (.int .i64 100)), none⟩] false)
          (.cond (.t 19)
            (.seq
              (.ops [⟨some 4, .move (.c (.bool false)), none⟩] false)
              (.ret))
            (.skip))))
      (.ops [⟨some 10, .move (.t 5), none⟩, 
          ⟨some 11, .bin .add (.t 10) (.c (.int .i64 1)), none⟩, 
          ⟨some 5, .move (.t 11), none⟩] false))
def F18 : AF :=
  { ntmps := 24, results := [.tmp 4], pure := true, body :=
    .seq
      (.ops [⟨some 4, .move (.c (.bool false)), none⟩] false)
      (.seq
        (.seq
          (.ops [⟨some 5, .move (.c (.int .i64 0)), none⟩] false)
          (.block 0
            (.loop L18_0)))
        (.seq
          (.ops [⟨some 20, .move (.t 1), none⟩, 
              ⟨some 21, .len (.t 20), none⟩, 
              ⟨some 22, .move (.t 0), none⟩, 
              ⟨some 23, .bin .leq (.t 21) (.t 22), none⟩, 
              ⟨some 4, .move (.t 23), none⟩] false)
          (.ret))) }

/- sequitur/cuts.Check -/
def F19 : AF :=
  { ntmps := 22, results := [.tmp 4, .tmp 5], pure := true, body :=
    .seq
      (.ops [⟨some 3, .box 29 (.t 1), none⟩, 
          ⟨some 4, .move (.c (.fsl 1 [])), none⟩, 
          ⟨some 5, .move (.c (.int .i64 0)), none⟩] false)
      (.seq
        (.seq
          (.ops [⟨some 7, .move (.t 0), none⟩, 
              ⟨some 8, .len (.t 7), none⟩, 
              ⟨some 9, .bin .gtr (.t 8) (.c (.int .i64 1024)), none⟩] false)
          (.cond (.t 9)
            (.seq
              (.ops [⟨some 4, .move (.c (.fsl 1 [])), none⟩, 
                  ⟨some 5, .move (.c (.int .i64 2)), none⟩] false)
              (.ret))
            (.skip)))
        (.seq
          (.seq
            (.ops [⟨some 10, .move (.t 0), none⟩, 
                ⟨some 11, .call 35 [.t 10, .f 36], none⟩] false)
            (.cond (.t 11)
              (.seq
                (.ops [⟨some 4, .move (.c (.fsl 1 [])), none⟩, 
                    ⟨some 5, .move (.c (.int .i64 1)), none⟩] false)
                (.ret))
              (.skip)))
          (.seq
            (.seq
              (.ops [⟨some 12, .load true 7 (.t 3), none⟩, 
                  ⟨some 13, .call 11 [.t 12], none⟩, 
                  ⟨some 6, .move (.t 13), none⟩] false)
              (.seq
                (.ops [⟨some 14, .move (.t 6), none⟩, 
                    ⟨some 15, .bin .neq (.t 14) (.c (.int .i64 0)), none⟩] false)
                (.cond (.t 15)
                  (.seq
                    (.ops [⟨some 16, .move (.t 6), none⟩, 
                        ⟨some 4, .move (.c (.fsl 1 [])), none⟩, 
                        ⟨some 5, .move (.t 16), none⟩] false)
                    (.ret))
                  (.skip))))
            (.seq
              (.ops [⟨some 17, .move (.t 0), none⟩, 
                  ⟨some 18, .load true 7 (.t 3), none⟩, 
                  ⟨some 19, .call 37 [.t 17, .t 18, .c (.fsl 1 [])], none⟩, 
                  ⟨some 20, .extract (.t 19) 0, none⟩, 
                  ⟨some 21, .extract (.t 19) 1, none⟩, 
                  ⟨some 4, .move (.t 20), none⟩, 
                  ⟨some 5, .move (.t 21), none⟩] false)
              (.ret))))) }

/- sequitur/sequiturref31.Check -/
def L20_0 : AC :=
  .seq
    (.seq
      (.ops [⟨some 11, .move (.t 5), none⟩, 
          ⟨some 12, .move (.t 0), none⟩, 
          ⟨some 13, .len (.t 12), none⟩, 
          ⟨some 14, .bin .lss (.t 11) (.t 13), none⟩] false)
      (.cond (.t 14)
        (.skip)
        (.exit 0)))
    (.seq
      (.block 1
        (.seq
          (.ops [⟨some 17, .move (.t 0), none⟩, 
              ⟨some 18, .move (.t 5), none⟩, 
              ⟨some 19, .idxA 3 (.t 17) (.t 18), none⟩, 
              ⟨some 20, .fieldA 0 (.t 19), none⟩, 
              ⟨some 21, .load true 2 (.t 20), none⟩, 
              ⟨some 22, .call 39 [.t 21], none⟩, 
              ⟨some 23, .not (.t 22), none⟩] false)
          (.cond (.t 23)
            (.seq
              (.ops [⟨some 24, .call 38 [.c (.int .i64 1)], none⟩, 
                  ⟨none, .store 2 (.t 4) (.t 24), none⟩] false)
              (.ret))
            (.skip))))
      (.ops [⟨some 15, .move (.t 5), none⟩, 
          ⟨some 16, .bin .add (.t 15) (.c (.int .i64 1)), none⟩, 
          ⟨some 5, .move (.t 16), none⟩] false))
def F20 : AF :=
  { ntmps := 34, results := [.cell 4 true 2], pure := true, body :=
    .seq
      (.ops [⟨some 3, .box 29 (.t 1), none⟩, 
          ⟨some 4, .alloc 41 [.fsl 1 [], .int .i64 0], none⟩] false)
      (.seq
        (.seq
          (.ops [⟨some 7, .move (.t 0), none⟩, 
              ⟨some 8, .len (.t 7), none⟩, 
              ⟨some 9, .bin .gtr (.t 8) (.c (.int .i64 1024)), none⟩] false)
          (.cond (.t 9)
            (.seq
              (.ops [⟨some 10, .call 38 [.c (.int .i64 2)], none⟩, 
                  ⟨none, .store 2 (.t 4) (.t 10), none⟩] false)
              (.ret))
            (.skip)))
        (.seq
          (.seq
            (.ops [⟨some 5, .move (.c (.int .i64 0)), none⟩] false)
            (.block 0
              (.loop L20_0)))
          (.seq
            (.seq
              (.ops [⟨some 25, .load true 7 (.t 3), none⟩, 
                  ⟨some 26, .call 12 [.t 25], none⟩, 
                  ⟨some 6, .move (.t 26), none⟩] false)
              (.seq
                (.ops [⟨some 27, .move (.t 6), none⟩, 
                    ⟨some 28, .bin .neq (.t 27) (.c (.int .i64 0)), none⟩] false)
                (.cond (.t 28)
                  (.seq
                    (.ops [⟨some 29, .move (.t 6), none⟩, 
                        ⟨some 30, .call 38 [.t 29], none⟩, 
                        ⟨none, .store 2 (.t 4) (.t 30), none⟩] false)
                    (.ret))
                  (.skip))))
            (.seq
              (.ops [⟨some 31, .move (.t 0), none⟩, 
                  ⟨some 32, .load true 7 (.t 3), none⟩, 
                  ⟨some 33, .call 40 [.t 31, .t 32], none⟩, 
                  ⟨none, .store 2 (.t 4) (.t 33), none⟩] false)
              (.ret))))) }

/- sequitur/sequiturbase.Ints -/
def L21_0 : AC :=
  .seq
    (.seq
      (.ops [⟨some 11, .move (.t 5), none⟩, 
          ⟨some 12, .move (.t 0), none⟩, 
          ⟨some 13, .len (.t 12), none⟩, 
          ⟨some 14, .bin .lss (.t 11) (.t 13), none⟩] false)
      (.cond (.t 14)
        (.skip)
        (.exit 0)))
    (.seq
      (.block 1
        (.seq
          (.ops [⟨some 17, .move (.t 0), none⟩, 
              ⟨some 18, .move (.t 5), none⟩, 
              ⟨some 19, .idxA 1 (.t 17) (.t 18), none⟩, 
              ⟨some 20, .load false 1 (.t 19), none⟩, 
              ⟨some 21, .move (.t 1), none⟩, 
              ⟨some 22, .move (.t 5), none⟩, 
              ⟨some 23, .idxA 1 (.t 21) (.t 22), none⟩, 
              ⟨some 24, .load false 1 (.t 23), none⟩, 
              ⟨some 25, .bin .neq (.t 20) (.t 24), none⟩] true)
          (.cond (.t 25)
            (.seq
              (.ops [⟨some 4, .move (.c (.bool false)), none⟩] false)
              (.ret))
            (.skip))))
      (.ops [⟨some 15, .move (.t 5), none⟩, 
          ⟨some 16, .bin .add (.t 15) (.c (.int .i64 1)), none⟩, 
          ⟨some 5, .move (.t 16), none⟩] false))
def F21 : AF :=
  { ntmps := 26, results := [.tmp 4], pure := true, body :=
    .seq
      (.ops [⟨some 4, .move (.c (.bool false)), none⟩] false)
      (.seq
        (.seq
          (.ops [⟨some 6, .move (.t 0), none⟩, 
              ⟨some 7, .len (.t 6), none⟩, 
              ⟨some 8, .move (.t 1), none⟩, 
              ⟨some 9, .len (.t 8), none⟩, 
              ⟨some 10, .bin .neq (.t 7) (.t 9), none⟩] false)
          (.cond (.t 10)
            (.seq
              (.ops [⟨some 4, .move (.c (.bool false)), none⟩] false)
              (.ret))
            (.skip)))
        (.seq
          (.seq
            (.ops [⟨some 5, .move (.c (.int .i64 0)), none⟩] false)
            (.block 0
              (.loop L21_0)))
          (.seq
            (.ops [⟨some 4, .move (.c (.bool true)), none⟩] false)
            (.ret)))) }

/- sequitur/cuts.End -/
def F22 : AF :=
  { ntmps := 6, results := [.cell 2 true 7], pure := true, body :=
    .seq
      (.ops [⟨some 2, .alloc 29 [.int .i64 0, .fsl 1 [], .fsl 1 [], .int .i64 0, .int .i64 0, .fsl 2 [], .fsl 7 []], none⟩] false)
      (.seq
        (.ops [⟨some 3, .move (.t 0), none⟩, 
            ⟨some 4, .buildSl 1 [.int .i64 0] 1 [(0, .t 3)], none⟩, 
            ⟨some 5, .build [.int .i64 0, .fsl 1 [], .fsl 1 [], .int .i64 0, .int .i64 0, .fsl 2 [], .fsl 7 []] [(0, 1, .c (.int .i64 1)), (1, 1, .t 4)], none⟩, 
            ⟨none, .store 7 (.t 2) (.t 5), none⟩] false)
        (.ret)) }

/- sequitur/cuts.Sum -/
def F23 : AF :=
  { ntmps := 17, results := [.cell 8 true 7], pure := true, body :=
    .seq
      (.ops [⟨some 7, .box 29 (.t 3), none⟩, 
          ⟨some 8, .alloc 29 [.int .i64 0, .fsl 1 [], .fsl 1 [], .int .i64 0, .int .i64 0, .fsl 2 [], .fsl 7 []], none⟩] false)
      (.seq
        (.opsV [⟨some 9, .move (.t 0), none⟩, 
            ⟨some 10, .call 41 [.t 9], none⟩, 
            ⟨some 11, .move (.t 1), none⟩, 
            ⟨some 12, .call 42 [.t 11], none⟩, 
            ⟨some 13, .move (.t 2), none⟩, 
            ⟨some 14, .load true 7 (.t 7), none⟩, 
            ⟨some 15, .buildSl 7 [.int .i64 0, .fsl 1 [], .fsl 1 [], .int .i64 0, .int .i64 0, .fsl 2 [], .fsl 7 []] 1 [(0, .t 14)], none⟩, 
            ⟨some 16, .build [.int .i64 0, .fsl 1 [], .fsl 1 [], .int .i64 0, .int .i64 0, .fsl 2 [], .fsl 7 []] [(0, 1, .c (.int .i64 2)), (1, 1, .t 10), (2, 1, .t 12), (3, 1, .t 13), (6, 1, .t 15)], none⟩, 
            ⟨none, .store 7 (.t 8) (.t 16), none⟩])
        (.ret)) }

/- sequitur/ineq.Right -/
def F24 : AF :=
  { ntmps := 6, results := [.tmp 2], pure := true, body :=
    .seq
      (.ops [⟨some 1, .box 51 (.t 0), none⟩, 
          ⟨some 2, .move (.c (.int .i64 0)), none⟩] false)
      (.seq
        (.ops [⟨some 3, .fieldA 0 (.t 1), none⟩, 
            ⟨some 4, .load true 2 (.t 3), none⟩, 
            ⟨some 5, .call 43 [.t 4], none⟩, 
            ⟨some 2, .move (.t 5), none⟩] false)
        (.ret)) }

/- sequitur/cuts.Shift -/
def L25_0 : AC :=
  .seq
    (.ops [⟨some 19, .bin .lss (.t 18) (.t 17), none⟩] false)
    (.seq
      (.cond (.t 19)
        (.skip)
        (.exit 0))
      (.seq
        (.block 1
          (.seq
            (.ops [⟨some 20, .move (.t 18), none⟩, 
                ⟨some 21, .idxA 1 (.t 16) (.t 18), none⟩, 
                ⟨some 22, .load false 1 (.t 21), none⟩, 
                ⟨some 7, .move (.t 20), none⟩, 
                ⟨some 8, .move (.t 22), none⟩] false)
            (.seq
              (.ops [⟨some 23, .move (.t 8), none⟩, 
                  ⟨some 24, .move (.t 1), none⟩, 
                  ⟨some 25, .bin .geq (.t 23) (.t 24), none⟩] false)
              (.cond (.t 25)
                (.ops [⟨some 26, .fieldA 1 (.t 3), none⟩, 
                    ⟨some 27, .load false 1 (.t 26), none⟩, 
                    ⟨some 28, .move (.t 7), none⟩, 
                    ⟨some 29, .move (.t 8), none⟩, 
                    ⟨some 30, .move (.t 2), none⟩, 
                    ⟨some 31, .bin .add (.t 29) (.t 30), none⟩, 
                    ⟨some 32, .idxA 1 (.t 27) (.t 28), none⟩, 
                    ⟨none, .store 1 (.t 32) (.t 31), none⟩] false)
                (.skip)))))
        (.ops [⟨some 33, .bin .add (.t 18) (.c (.int .i64 1)), none⟩, 
            ⟨some 18, .move (.t 33), none⟩] false)))

def L25_1 : AC :=
  .seq
    (.ops [⟨some 52, .bin .lss (.t 51) (.t 50), none⟩] false)
    (.seq
      (.cond (.t 52)
        (.skip)
        (.exit 2))
      (.seq
        (.block 3
          (.seq
            (.ops [⟨some 53, .move (.t 51), none⟩, 
                ⟨some 54, .idxA 7 (.t 49) (.t 51), none⟩, 
                ⟨some 55, .load true 7 (.t 54), none⟩, 
                ⟨some 10, .alloc 29 [.int .i64 0, .fsl 1 [], .fsl 1 [], .int .i64 0, .int .i64 0, .fsl 2 [], .fsl 7 []], none⟩, 
                ⟨some 9, .move (.t 53), none⟩, 
                ⟨none, .store 7 (.t 10) (.t 55), none⟩] false)
            (.ops [⟨some 56, .fieldA 6 (.t 3), none⟩, 
                ⟨some 57, .load false 1 (.t 56), none⟩, 
                ⟨some 58, .move (.t 9), none⟩, 
                ⟨some 59, .load true 7 (.t 10), none⟩, 
                ⟨some 60, .move (.t 1), none⟩, 
                ⟨some 61, .move (.t 2), none⟩, 
                ⟨some 62, .call 25 [.t 59, .t 60, .t 61], none⟩, 
                ⟨some 63, .idxA 7 (.t 57) (.t 58), none⟩, 
                ⟨none, .store 7 (.t 63) (.t 62), none⟩] true)))
        (.ops [⟨some 64, .bin .add (.t 51) (.c (.int .i64 1)), none⟩, 
            ⟨some 51, .move (.t 64), none⟩] false)))
def F25 : AF :=
  { ntmps := 66, results := [.cell 6 true 7], pure := true, body :=
    .seq
      (.ops [⟨some 3, .box 29 (.t 0), none⟩, 
          ⟨some 6, .alloc 29 [.int .i64 0, .fsl 1 [], .fsl 1 [], .int .i64 0, .int .i64 0, .fsl 2 [], .fsl 7 []], none⟩] false)
      (.seq
        (.ops [⟨some 11, .fieldA 1 (.t 3), none⟩, 
            ⟨some 12, .load false 1 (.t 11), none⟩, 
            ⟨some 13, .call 1000041 [.t 12], none⟩, 
            ⟨some 14, .fieldA 1 (.t 3), none⟩, 
            ⟨none, .store 1 (.t 14) (.t 13), none⟩] false)
        (.seq
          (.seq
            (.ops [⟨some 15, .fieldA 1 (.t 3), none⟩, 
                ⟨some 16, .load false 1 (.t 15), none⟩, 
                ⟨some 17, .len (.t 16), none⟩, 
                ⟨some 18, .move (.c (.int .i64 0)), none⟩] false)
            (.block 0
              (.loop L25_0)))
          (.seq
            (.ops [⟨some 34, .fieldA 2 (.t 3), none⟩, 
                ⟨some 35, .load false 1 (.t 34), none⟩, 
                ⟨some 36, .call 42 [.t 35], none⟩, 
                ⟨some 37, .fieldA 2 (.t 3), none⟩, 
                ⟨none, .store 1 (.t 37) (.t 36), none⟩] false)
            (.seq
              (.ops [⟨some 38, .fieldA 4 (.t 3), none⟩, 
                  ⟨some 39, .fieldA 1 (.t 38), none⟩, 
                  ⟨some 40, .load false 1 (.t 39), none⟩, 
                  ⟨some 41, .call 44 [.t 40], none⟩, 
                  ⟨some 42, .fieldA 4 (.t 3), none⟩, 
                  ⟨some 43, .fieldA 1 (.t 42), none⟩, 
                  ⟨none, .store 1 (.t 43) (.t 41), none⟩] false)
              (.seq
                (.ops [⟨some 44, .fieldA 6 (.t 3), none⟩, 
                    ⟨some 45, .load false 1 (.t 44), none⟩, 
                    ⟨some 46, .call 1000045 [.t 45], none⟩, 
                    ⟨some 47, .fieldA 6 (.t 3), none⟩, 
                    ⟨none, .store 1 (.t 47) (.t 46), none⟩] false)
                (.seq
                  (.seq
                    (.ops [⟨some 48, .fieldA 6 (.t 3), none⟩, 
                        ⟨some 49, .load false 1 (.t 48), none⟩, 
                        ⟨some 50, .len (.t 49), none⟩, 
                        ⟨some 51, .move (.c (.int .i64 0)), none⟩] false)
                    (.block 2
                      (.loop L25_1)))
                  (.seq
                    (.ops [⟨some 65, .load true 7 (.t 3), none⟩, 
                        ⟨none, .store 7 (.t 6) (.t 65), none⟩] false)
                    (.ret)))))))) }

/- sequitur/ineq.All -/
def L26_0 : AC :=
  .seq
    (.ops [⟨some 13, .bin .lss (.t 12) (.t 11), none⟩] false)
    (.seq
      (.cond (.t 13)
        (.skip)
        (.exit 0))
      (.seq
        (.block 1
          (.seq
            (.ops [⟨some 14, .move (.t 12), none⟩, 
                ⟨some 15, .idxA 3 (.t 10) (.t 12), none⟩, 
                ⟨some 16, .load true 3 (.t 15), none⟩, 
                ⟨some 7, .alloc 51 [.int .i64 0, .fsl 2 [], .bool false], none⟩, 
                ⟨some 6, .move (.t 14), none⟩, 
                ⟨none, .store 3 (.t 7) (.t 16), none⟩] false)
            (.seq
              (.ops [⟨some 18, .load true 3 (.t 7), none⟩, 
                  ⟨some 19, .move (.t 1), none⟩, 
                  ⟨some 20, .call 46 [.t 18, .t 19], none⟩, 
                  ⟨some 17, .move (.t 20), none⟩, 
                  ⟨some 21, .extract (.t 17) 0, none⟩, 
                  ⟨some 22, .extract (.t 17) 1, none⟩, 
                  ⟨some 8, .move (.t 21), none⟩, 
                  ⟨some 9, .move (.t 22), none⟩] false)
              (.seq
                (.ops [⟨some 23, .move (.t 9), none⟩, 
                    ⟨some 24, .bin .neq (.t 23) (.c (.int .i64 0)), none⟩, 
                    ⟨some 25, .move (.t 24), none⟩, 
                    ⟨some 26, .move (.t 8), some (25, false)⟩, 
                    ⟨some 27, .not (.t 26), some (25, false)⟩, 
                    ⟨some 28, .pick (.t 25) (.c (.bool true)) (.t 27), none⟩] false)
                (.cond (.t 28)
                  (.seq
                    (.ops [⟨some 29, .move (.t 6), none⟩, 
                        ⟨some 30, .move (.t 9), none⟩, 
                        ⟨some 4, .move (.t 29), none⟩, 
                        ⟨some 5, .move (.t 30), none⟩] false)
                    (.ret))
                  (.skip))))))
        (.ops [⟨some 31, .bin .add (.t 12) (.c (.int .i64 1)), none⟩, 
            ⟨some 12, .move (.t 31), none⟩] false)))
def F26 : AF :=
  { ntmps := 32, results := [.tmp 4, .tmp 5], pure := true, body :=
    .seq
      (.ops [⟨some 4, .move (.c (.int .i64 0)), none⟩, 
          ⟨some 5, .move (.c (.int .i64 0)), none⟩] false)
      (.seq
        (.seq
          (.ops [⟨some 10, .move (.t 0), none⟩, 
              ⟨some 11, .len (.t 10), none⟩, 
              ⟨some 12, .move (.c (.int .i64 0)), none⟩] false)
          (.block 0
            (.loop L26_0)))
        (.seq
          (.ops [⟨some 4, .move (.c (.int .i64 (-1))), none⟩, 
              ⟨some 5, .move (.c (.int .i64 0)), none⟩] false)
          (.ret))) }

/- sequitur/cuts.Split -/
def F27 : AF :=
  { ntmps := 17, results := [.cell 6 true 7], pure := true, body :=
    .seq
      (.ops [⟨some 3, .box 26 (.t 0), none⟩, 
          ⟨some 4, .box 29 (.t 1), none⟩, 
          ⟨some 5, .box 29 (.t 2), none⟩, 
          ⟨some 6, .alloc 29 [.int .i64 0, .fsl 1 [], .fsl 1 [], .int .i64 0, .int .i64 0, .fsl 2 [], .fsl 7 []], none⟩] false)
      (.seq
        (.opsV [⟨some 7, .fieldA 0 (.t 3), none⟩, 
            ⟨some 8, .load false 1 (.t 7), none⟩, 
            ⟨some 9, .fieldA 1 (.t 3), none⟩, 
            ⟨some 10, .load false 1 (.t 9), none⟩, 
            ⟨some 11, .call 44 [.t 10], none⟩, 
            ⟨some 12, .build [.int .i64 0, .fsl 2 []] [(0, 1, .t 8), (1, 1, .t 11)], none⟩, 
            ⟨some 13, .load true 7 (.t 4), none⟩, 
            ⟨some 14, .load true 7 (.t 5), none⟩, 
            ⟨some 15, .buildSl 7 [.int .i64 0, .fsl 1 [], .fsl 1 [], .int .i64 0, .int .i64 0, .fsl 2 [], .fsl 7 []] 2 [(0, .t 13), (1, .t 14)], none⟩, 
            ⟨some 16, .build [.int .i64 0, .fsl 1 [], .fsl 1 [], .int .i64 0, .int .i64 0, .fsl 2 [], .fsl 7 []] [(0, 1, .c (.int .i64 3)), (4, 2, .t 12), (6, 1, .t 15)], none⟩, 
            ⟨none, .store 7 (.t 6) (.t 16), none⟩])
        (.ret)) }

/- sequitur/sequiturbase.Cut -/
def F28 : AF :=
  { ntmps := 45, results := [.tmp 4], pure := true, body :=
    .seq
      (.ops [⟨some 2, .box 29 (.t 0), none⟩, 
          ⟨some 3, .box 29 (.t 1), none⟩, 
          ⟨some 4, .move (.c (.bool false)), none⟩] false)
      (.seq
        (.ops [⟨some 5, .fieldA 0 (.t 2), none⟩, 
            ⟨some 6, .load false 1 (.t 5), none⟩, 
            ⟨some 7, .fieldA 0 (.t 3), none⟩, 
            ⟨some 8, .load false 1 (.t 7), none⟩, 
            ⟨some 9, .bin .eql (.t 6) (.t 8), none⟩, 
            ⟨some 10, .move (.t 9), none⟩, 
            ⟨some 11, .fieldA 3 (.t 2), some (10, true)⟩, 
            ⟨some 12, .load false 1 (.t 11), some (10, true)⟩, 
            ⟨some 13, .fieldA 3 (.t 3), some (10, true)⟩, 
            ⟨some 14, .load false 1 (.t 13), some (10, true)⟩, 
            ⟨some 15, .bin .eql (.t 12) (.t 14), some (10, true)⟩, 
            ⟨some 16, .pick (.t 10) (.t 15) (.c (.bool false)), none⟩, 
            ⟨some 17, .move (.t 16), none⟩, 
            ⟨some 18, .fieldA 1 (.t 2), some (17, true)⟩, 
            ⟨some 19, .load false 1 (.t 18), some (17, true)⟩, 
            ⟨some 20, .fieldA 1 (.t 3), some (17, true)⟩, 
            ⟨some 21, .load false 1 (.t 20), some (17, true)⟩, 
            ⟨some 22, .call 21 [.t 19, .t 21], some (17, true)⟩, 
            ⟨some 23, .pick (.t 17) (.t 22) (.c (.bool false)), none⟩, 
            ⟨some 24, .move (.t 23), none⟩, 
            ⟨some 25, .fieldA 2 (.t 2), some (24, true)⟩, 
            ⟨some 26, .load false 1 (.t 25), some (24, true)⟩, 
            ⟨some 27, .fieldA 2 (.t 3), some (24, true)⟩, 
            ⟨some 28, .load false 1 (.t 27), some (24, true)⟩, 
            ⟨some 29, .call 47 [.t 26, .t 28], some (24, true)⟩, 
            ⟨some 30, .pick (.t 24) (.t 29) (.c (.bool false)), none⟩, 
            ⟨some 31, .move (.t 30), none⟩, 
            ⟨some 32, .fieldA 4 (.t 2), some (31, true)⟩, 
            ⟨some 33, .load true 2 (.t 32), some (31, true)⟩, 
            ⟨some 34, .fieldA 4 (.t 3), some (31, true)⟩, 
            ⟨some 35, .load true 2 (.t 34), some (31, true)⟩, 
            ⟨some 36, .call 48 [.t 33, .t 35], some (31, true)⟩, 
            ⟨some 37, .pick (.t 31) (.t 36) (.c (.bool false)), none⟩, 
            ⟨some 38, .move (.t 37), none⟩, 
            ⟨some 39, .fieldA 6 (.t 2), some (38, true)⟩, 
            ⟨some 40, .load false 1 (.t 39), some (38, true)⟩, 
            ⟨some 41, .fieldA 6 (.t 3), some (38, true)⟩, 
            ⟨some 42, .load false 1 (.t 41), some (38, true)⟩, 
            ⟨some 43, .call 49 [.t 40, .t 42], some (38, true)⟩, 
            ⟨some 44, .pick (.t 38) (.t 43) (.c (.bool false)), none⟩, 
            ⟨some 4, .move (.t 44), none⟩] false)
        (.ret)) }

/- sequitur/sequiturref31.Shift -/
def L29_0 : AC :=
  .seq
    (.seq
      (.ops [⟨some 14, .move (.t 8), none⟩, 
          ⟨some 15, .fieldA 1 (.t 3), none⟩, 
          ⟨some 16, .load false 1 (.t 15), none⟩, 
          ⟨some 17, .len (.t 16), none⟩, 
          ⟨some 18, .bin .lss (.t 14) (.t 17), none⟩] false)
      (.cond (.t 18)
        (.skip)
        (.exit 0)))
    (.seq
      (.block 1
        (.seq
          (.ops [⟨some 21, .fieldA 1 (.t 3), none⟩, 
              ⟨some 22, .load false 1 (.t 21), none⟩, 
              ⟨some 23, .move (.t 8), none⟩, 
              ⟨some 24, .idxA 1 (.t 22) (.t 23), none⟩, 
              ⟨some 25, .load false 1 (.t 24), none⟩, 
              ⟨some 9, .move (.t 25), none⟩] false)
          (.seq
            (.seq
              (.ops [⟨some 26, .move (.t 9), none⟩, 
                  ⟨some 27, .move (.t 1), none⟩, 
                  ⟨some 28, .bin .geq (.t 26) (.t 27), none⟩] false)
              (.cond (.t 28)
                (.ops [⟨some 29, .move (.t 9), none⟩, 
                    ⟨some 30, .move (.t 2), none⟩, 
                    ⟨some 31, .bin .add (.t 29) (.t 30), none⟩, 
                    ⟨some 9, .move (.t 31), none⟩] false)
                (.skip)))
            (.ops [⟨some 32, .fieldA 1 (.t 7), none⟩, 
                ⟨some 33, .load false 1 (.t 32), none⟩, 
                ⟨some 34, .move (.t 9), none⟩, 
                ⟨some 35, .buildSl 1 [.int .i64 0] 1 [(0, .t 34)], none⟩, 
                ⟨some 36, .append 3 1 8 (.t 33) (.t 35), none⟩, 
                ⟨some 37, .fieldA 1 (.t 7), none⟩, 
                ⟨none, .store 1 (.t 37) (.t 36), none⟩] false))))
      (.ops [⟨some 19, .move (.t 8), none⟩, 
          ⟨some 20, .bin .add (.t 19) (.c (.int .i64 1)), none⟩, 
          ⟨some 8, .move (.t 20), none⟩] false))

def L29_1 : AC :=
  .seq
    (.seq
      (.ops [⟨some 38, .move (.t 10), none⟩, 
          ⟨some 39, .fieldA 6 (.t 3), none⟩, 
          ⟨some 40, .load false 1 (.t 39), none⟩, 
          ⟨some 41, .len (.t 40), none⟩, 
          ⟨some 42, .bin .lss (.t 38) (.t 41), none⟩] false)
      (.cond (.t 42)
        (.skip)
        (.exit 2)))
    (.seq
      (.block 3
        (.ops [⟨some 45, .fieldA 6 (.t 7), none⟩, 
            ⟨some 46, .load false 1 (.t 45), none⟩, 
            ⟨some 47, .fieldA 6 (.t 3), none⟩, 
            ⟨some 48, .load false 1 (.t 47), none⟩, 
            ⟨some 49, .move (.t 10), none⟩, 
            ⟨some 50, .idxA 7 (.t 48) (.t 49), none⟩, 
            ⟨some 51, .load true 7 (.t 50), none⟩, 
            ⟨some 52, .move (.t 1), none⟩, 
            ⟨some 53, .move (.t 2), none⟩, 
            ⟨some 54, .call 29 [.t 51, .t 52, .t 53], none⟩, 
            ⟨some 55, .buildSl 7 [.int .i64 0, .fsl 1 [], .fsl 1 [], .int .i64 0, .int .i64 0, .fsl 2 [], .fsl 7 []] 1 [(0, .t 54)], none⟩, 
            ⟨some 56, .append 29 7 120 (.t 46) (.t 55), none⟩, 
            ⟨some 57, .fieldA 6 (.t 7), none⟩, 
            ⟨none, .store 1 (.t 57) (.t 56), none⟩] true))
      (.ops [⟨some 43, .move (.t 10), none⟩, 
          ⟨some 44, .bin .add (.t 43) (.c (.int .i64 1)), none⟩, 
          ⟨some 10, .move (.t 44), none⟩] false))
def F29 : AF :=
  { ntmps := 59, results := [.cell 6 true 7], pure := true, body :=
    .seq
      (.ops [⟨some 3, .box 29 (.t 0), none⟩, 
          ⟨some 6, .alloc 29 [.int .i64 0, .fsl 1 [], .fsl 1 [], .int .i64 0, .int .i64 0, .fsl 2 [], .fsl 7 []], none⟩] false)
      (.seq
        (.ops [⟨some 11, .load true 7 (.t 3), none⟩, 
            ⟨some 7, .alloc 29 [.int .i64 0, .fsl 1 [], .fsl 1 [], .int .i64 0, .int .i64 0, .fsl 2 [], .fsl 7 []], none⟩, 
            ⟨none, .store 7 (.t 7) (.t 11), none⟩] false)
        (.seq
          (.ops [⟨some 12, .fieldA 1 (.t 7), none⟩, 
              ⟨none, .store 1 (.t 12) (.c (.fsl 1 [])), none⟩] false)
          (.seq
            (.ops [⟨some 13, .fieldA 6 (.t 7), none⟩, 
                ⟨none, .store 1 (.t 13) (.c (.fsl 7 [])), none⟩] false)
            (.seq
              (.seq
                (.ops [⟨some 8, .move (.c (.int .i64 0)), none⟩] false)
                (.block 0
                  (.loop L29_0)))
              (.seq
                (.seq
                  (.ops [⟨some 10, .move (.c (.int .i64 0)), none⟩] false)
                  (.block 2
                    (.loop L29_1)))
                (.seq
                  (.ops [⟨some 58, .load true 7 (.t 7), none⟩, 
                      ⟨none, .store 7 (.t 6) (.t 58), none⟩] false)
                  (.ret))))))) }

/- sequitur/cuts.Uses -/
def F30 : AF :=
  { ntmps := 13, results := [.tmp 4], pure := true, body :=
    .seq
      (.ops [⟨some 2, .box 29 (.t 0), none⟩, 
          ⟨some 3, .box 3 (.t 1), none⟩, 
          ⟨some 4, .move (.c (.fsl 1 [])), none⟩] false)
      (.seq
        (.ops [⟨some 5, .alloc 22 [.fsl 1 []], none⟩] false)
        (.seq
          (.ops [⟨some 6, .load true 7 (.t 2), none⟩, 
              ⟨some 7, .mkfn (.func 50) [] [.t 3, .t 5], none⟩, 
              ⟨some 8, .call 1000032 [.t 6, .c (.fsl 1 []), .t 7], none⟩] false)
          (.seq
            (.ops [⟨some 9, .load false 1 (.t 5), none⟩, 
                ⟨some 10, .call 51 [.t 9], none⟩] false)
            (.seq
              (.ops [⟨some 11, .load false 1 (.t 5), none⟩, 
                  ⟨some 12, .call 52 [.t 11], none⟩, 
                  ⟨some 4, .move (.t 12), none⟩] false)
              (.ret))))) }

/- sequitur/sequiturref31.Uses -/
def L31_0 : AC :=
  .seq
    (.seq
      (.ops [⟨some 7, .move (.t 6), none⟩, 
          ⟨some 8, .move (.t 1), none⟩, 
          ⟨some 9, .bin .lss (.t 7) (.t 8), none⟩] false)
      (.cond (.t 9)
        (.skip)
        (.exit 0)))
    (.seq
      (.block 1
        (.seq
          (.ops [⟨some 12, .load true 7 (.t 2), none⟩, 
              ⟨some 13, .move (.t 6), none⟩, 
              ⟨some 14, .call 53 [.t 12, .t 13], none⟩] false)
          (.cond (.t 14)
            (.ops [⟨some 15, .move (.t 5), none⟩, 
                ⟨some 16, .move (.t 6), none⟩, 
                ⟨some 17, .buildSl 1 [.int .i64 0] 1 [(0, .t 16)], none⟩, 
                ⟨some 18, .append 3 1 8 (.t 15) (.t 17), none⟩, 
                ⟨some 5, .move (.t 18), none⟩] false)
            (.skip))))
      (.ops [⟨some 10, .move (.t 6), none⟩, 
          ⟨some 11, .bin .add (.t 10) (.c (.int .i64 1)), none⟩, 
          ⟨some 6, .move (.t 11), none⟩] false))
def F31 : AF :=
  { ntmps := 20, results := [.tmp 4], pure := true, body :=
    .seq
      (.ops [⟨some 2, .box 29 (.t 0), none⟩, 
          ⟨some 4, .move (.c (.fsl 1 [])), none⟩] false)
      (.seq
        (.ops [⟨some 5, .move (.c (.fsl 1 [])), none⟩] false)
        (.seq
          (.seq
            (.ops [⟨some 6, .move (.c (.int .i64 0)), none⟩] false)
            (.block 0
              (.loop L31_0)))
          (.seq
            (.ops [⟨some 19, .move (.t 5), none⟩, 
                ⟨some 4, .move (.t 19), none⟩] false)
            (.ret)))) }

/- sequitur/cuts.walk -/
def L32_0 : AC :=
  .seq
    (.ops [⟨some 25, .bin .lss (.t 24) (.t 23), none⟩] false)
    (.seq
      (.cond (.t 25)
        (.skip)
        (.exit 0))
      (.seq
        (.block 1
          (.seq
            (.ops [⟨some 26, .move (.t 24), none⟩, 
                ⟨some 27, .idxA 7 (.t 22) (.t 24), none⟩, 
                ⟨some 28, .load true 7 (.t 27), none⟩, 
                ⟨some 10, .alloc 29 [.int .i64 0, .fsl 1 [], .fsl 1 [], .int .i64 0, .int .i64 0, .fsl 2 [], .fsl 7 []], none⟩, 
                ⟨some 9, .move (.t 26), none⟩, 
                ⟨none, .store 7 (.t 10) (.t 28), none⟩] false)
            (.seq
              (.opsV [⟨some 30, .load true 7 (.t 10), none⟩, 
                  ⟨some 31, .move (.t 1), none⟩, 
                  ⟨some 32, .move (.t 1), none⟩, 
                  ⟨some 33, .len (.t 32), none⟩, 
                  ⟨some 34, .move (.t 1), none⟩, 
                  ⟨some 35, .len (.t 34), none⟩, 
                  ⟨some 36, .slice 1 (.t 31) none (some (.t 33)) (some (.t 35)), none⟩, 
                  ⟨some 37, .move (.t 9), none⟩, 
                  ⟨some 38, .buildSl 1 [.int .i64 0] 1 [(0, .t 37)], none⟩, 
                  ⟨some 39, .append 3 1 8 (.t 36) (.t 38), none⟩, 
                  ⟨some 40, .move (.t 2), none⟩, 
                  ⟨some 41, .call 32 [.t 30, .t 39, .t 40], none⟩, 
                  ⟨some 29, .move (.t 41), none⟩, 
                  ⟨some 42, .extract (.t 29) 0, none⟩, 
                  ⟨some 43, .extract (.t 29) 1, none⟩, 
                  ⟨some 11, .move (.t 42), none⟩, 
                  ⟨some 12, .move (.t 43), none⟩])
              (.seq
                (.ops [⟨some 44, .move (.t 12), none⟩, 
                    ⟨some 45, .bin .neq (.t 44) (.c (.int .i64 0)), none⟩] false)
                (.cond (.t 45)
                  (.seq
                    (.ops [⟨some 46, .move (.t 11), none⟩, 
                        ⟨some 47, .move (.t 12), none⟩, 
                        ⟨some 6, .move (.t 46), none⟩, 
                        ⟨some 7, .move (.t 47), none⟩] false)
                    (.ret))
                  (.skip))))))
        (.ops [⟨some 48, .bin .add (.t 24) (.c (.int .i64 1)), none⟩, 
            ⟨some 24, .move (.t 48), none⟩] false)))
def F32 : AF :=
  { ntmps := 49, results := [.tmp 6, .tmp 7], pure := true, body :=
    .seq
      (.ops [⟨some 3, .box 29 (.t 0), none⟩, 
          ⟨some 6, .move (.c (.fsl 1 [])), none⟩, 
          ⟨some 7, .move (.c (.int .i64 0)), none⟩] false)
      (.seq
        (.seq
          (.ops [⟨some 13, .move (.t 2), none⟩, 
              ⟨some 14, .load true 7 (.t 3), none⟩, 
              ⟨some 15, .move (.t 1), none⟩, 
              ⟨some 16, .callv (.t 13) [.t 14, .t 15], none⟩, 
              ⟨some 8, .move (.t 16), none⟩] false)
          (.seq
            (.ops [⟨some 17, .move (.t 8), none⟩, 
                ⟨some 18, .bin .neq (.t 17) (.c (.int .i64 0)), none⟩] false)
            (.cond (.t 18)
              (.seq
                (.ops [⟨some 19, .move (.t 1), none⟩, 
                    ⟨some 20, .move (.t 8), none⟩, 
                    ⟨some 6, .move (.t 19), none⟩, 
                    ⟨some 7, .move (.t 20), none⟩] false)
                (.ret))
              (.skip))))
        (.seq
          (.seq
            (.ops [⟨some 21, .fieldA 6 (.t 3), none⟩, 
                ⟨some 22, .load false 1 (.t 21), none⟩, 
                ⟨some 23, .len (.t 22), none⟩, 
                ⟨some 24, .move (.c (.int .i64 0)), none⟩] false)
            (.block 0
              (.loop L32_0)))
          (.seq
            (.ops [⟨some 6, .move (.c (.fsl 1 [])), none⟩, 
                ⟨some 7, .move (.c (.int .i64 0)), none⟩] false)
            (.ret)))) }

/- sequitur/cuts.shape -/
def F33 : AF :=
  { ntmps := 56, results := [.tmp 4], pure := true, body :=
    .seq
      (.ops [⟨some 2, .box 29 (.t 0), none⟩, 
          ⟨some 4, .move (.c (.int .i64 0)), none⟩] false)
      (.seq
        (.ops [⟨some 8, .mkmap, none⟩, 
            ⟨none, .mapset false (.t 8) (.c (.int .i64 1)) (.c (.int .i64 0)), none⟩, 
            ⟨none, .mapset false (.t 8) (.c (.int .i64 2)) (.c (.int .i64 1)), none⟩, 
            ⟨none, .mapset false (.t 8) (.c (.int .i64 3)) (.c (.int .i64 2)), none⟩, 
            ⟨some 9, .move (.t 8), none⟩, 
            ⟨some 5, .move (.t 9), none⟩] false)
        (.seq
          (.ops [⟨some 11, .move (.t 5), none⟩, 
              ⟨some 12, .fieldA 0 (.t 2), none⟩, 
              ⟨some 13, .load false 1 (.t 12), none⟩, 
              ⟨some 14, .mapget false true false [.int .i64 0] (.t 11) (.t 13), none⟩, 
              ⟨some 10, .move (.t 14), none⟩, 
              ⟨some 15, .extract (.t 10) 0, none⟩, 
              ⟨some 16, .extract (.t 10) 1, none⟩, 
              ⟨some 6, .move (.t 15), none⟩, 
              ⟨some 7, .move (.t 16), none⟩] false)
          (.seq
            (.block 0
              (.seq
                (.ops [⟨some 18, .move (.t 7), none⟩, 
                    ⟨some 19, .not (.t 18), none⟩, 
                    ⟨some 17, .move (.t 19), none⟩] false)
                (.cond (.t 17)
                  (.seq
                    (.ops [⟨some 4, .move (.c (.int .i64 7)), none⟩] false)
                    (.ret))
                  (.seq
                    (.ops [⟨some 21, .fieldA 6 (.t 2), none⟩, 
                        ⟨some 22, .load false 1 (.t 21), none⟩, 
                        ⟨some 23, .len (.t 22), none⟩, 
                        ⟨some 24, .move (.t 6), none⟩, 
                        ⟨some 25, .bin .neq (.t 23) (.t 24), none⟩, 
                        ⟨some 26, .move (.t 25), none⟩, 
                        ⟨some 27, .fieldA 0 (.t 2), some (26, false)⟩, 
                        ⟨some 28, .load false 1 (.t 27), some (26, false)⟩, 
                        ⟨some 29, .bin .eql (.t 28) (.c (.int .i64 1)), some (26, false)⟩, 
                        ⟨some 30, .move (.t 29), some (26, false)⟩, 
                        ⟨some 31, .fieldA 1 (.t 2), some (30, true)⟩, 
                        ⟨some 32, .load false 1 (.t 31), some (30, true)⟩, 
                        ⟨some 33, .len (.t 32), some (30, true)⟩, 
                        ⟨some 34, .bin .neq (.t 33) (.c (.int .i64 1)), some (30, true)⟩, 
                        ⟨some 35, .pick (.t 30) (.t 34) (.c (.bool false)), some (26, false)⟩, 
                        ⟨some 36, .pick (.t 26) (.c (.bool true)) (.t 35), none⟩, 
                        ⟨some 20, .move (.t 36), none⟩] false)
                    (.cond (.t 20)
                      (.seq
                        (.ops [⟨some 4, .move (.c (.int .i64 12)), none⟩] false)
                        (.ret))
                      (.seq
                        (.ops [⟨some 38, .fieldA 0 (.t 2), none⟩, 
                            ⟨some 39, .load false 1 (.t 38), none⟩, 
                            ⟨some 40, .bin .eql (.t 39) (.c (.int .i64 2)), none⟩, 
                            ⟨some 41, .move (.t 40), none⟩, 
                            ⟨some 42, .fieldA 1 (.t 2), some (41, true)⟩, 
                            ⟨some 43, .load false 1 (.t 42), some (41, true)⟩, 
                            ⟨some 44, .len (.t 43), some (41, true)⟩, 
                            ⟨some 45, .fieldA 2 (.t 2), some (41, true)⟩, 
                            ⟨some 46, .load false 1 (.t 45), some (41, true)⟩, 
                            ⟨some 47, .len (.t 46), some (41, true)⟩, 
                            ⟨some 48, .bin .neq (.t 44) (.t 47), some (41, true)⟩, 
                            ⟨some 49, .move (.t 48), some (41, true)⟩, 
                            ⟨some 50, .fieldA 1 (.t 2), some (49, false)⟩, 
                            ⟨some 51, .load false 1 (.t 50), some (49, false)⟩, 
                            ⟨some 52, .len (.t 51), some (49, false)⟩, 
                            ⟨some 53, .bin .eql (.t 52) (.c (.int .i64 0)), some (49, false)⟩, 
                            ⟨some 54, .pick (.t 49) (.c (.bool true)) (.t 53), some (41, true)⟩, 
                            ⟨some 55, .pick (.t 41) (.t 54) (.c (.bool false)), none⟩, 
                            ⟨some 37, .move (.t 55), none⟩] false)
                        (.cond (.t 37)
                          (.seq
                            (.ops [⟨some 4, .move (.c (.int .i64 12)), none⟩] false)
                            (.ret))
                          (.skip))))))))
            (.seq
              (.ops [⟨some 4, .move (.c (.int .i64 0)), none⟩] false)
              (.ret))))) }

/- sequitur/sequiturref31.part -/
def L34_0 : AC :=
  .seq
    (.seq
      (.ops [⟨some 51, .move (.t 3), none⟩, 
          ⟨some 52, .fieldA 6 (.t 1), none⟩, 
          ⟨some 53, .load false 1 (.t 52), none⟩, 
          ⟨some 54, .len (.t 53), none⟩, 
          ⟨some 55, .bin .lss (.t 51) (.t 54), none⟩] false)
      (.cond (.t 55)
        (.skip)
        (.exit 0)))
    (.seq
      (.block 1
        (.seq
          (.ops [⟨some 58, .fieldA 6 (.t 1), none⟩, 
              ⟨some 59, .load false 1 (.t 58), none⟩, 
              ⟨some 60, .move (.t 3), none⟩, 
              ⟨some 61, .idxA 7 (.t 59) (.t 60), none⟩, 
              ⟨some 62, .load true 7 (.t 61), none⟩, 
              ⟨some 63, .call 34 [.t 62], none⟩, 
              ⟨some 4, .move (.t 63), none⟩] false)
          (.seq
            (.ops [⟨some 64, .move (.t 4), none⟩, 
                ⟨some 65, .bin .neq (.t 64) (.c (.int .i64 0)), none⟩] false)
            (.cond (.t 65)
              (.seq
                (.ops [⟨some 66, .move (.t 4), none⟩, 
                    ⟨some 2, .move (.t 66), none⟩] false)
                (.ret))
              (.skip)))))
      (.ops [⟨some 56, .move (.t 3), none⟩, 
          ⟨some 57, .bin .add (.t 56) (.c (.int .i64 1)), none⟩, 
          ⟨some 3, .move (.t 57), none⟩] false))
def F34 : AF :=
  { ntmps := 67, results := [.tmp 2], pure := true, body :=
    .seq
      (.ops [⟨some 1, .box 29 (.t 0), none⟩, 
          ⟨some 2, .move (.c (.int .i64 0)), none⟩] false)
      (.seq
        (.seq
          (.ops [⟨some 5, .fieldA 0 (.t 1), none⟩, 
              ⟨some 6, .load false 1 (.t 5), none⟩, 
              ⟨some 7, .bin .lss (.t 6) (.c (.int .i64 1)), none⟩, 
              ⟨some 8, .move (.t 7), none⟩, 
              ⟨some 9, .fieldA 0 (.t 1), some (8, false)⟩, 
              ⟨some 10, .load false 1 (.t 9), some (8, false)⟩, 
              ⟨some 11, .bin .gtr (.t 10) (.c (.int .i64 3)), some (8, false)⟩, 
              ⟨some 12, .pick (.t 8) (.c (.bool true)) (.t 11), none⟩] false)
          (.cond (.t 12)
            (.seq
              (.ops [⟨some 2, .move (.c (.int .i64 7)), none⟩] false)
              (.ret))
            (.skip)))
        (.seq
          (.seq
            (.ops [⟨some 13, .fieldA 6 (.t 1), none⟩, 
                ⟨some 14, .load false 1 (.t 13), none⟩, 
                ⟨some 15, .len (.t 14), none⟩, 
                ⟨some 16, .fieldA 0 (.t 1), none⟩, 
                ⟨some 17, .load false 1 (.t 16), none⟩, 
                ⟨some 18, .bin .sub (.t 17) (.c (.int .i64 1)), none⟩, 
                ⟨some 19, .bin .neq (.t 15) (.t 18), none⟩, 
                ⟨some 20, .move (.t 19), none⟩, 
                ⟨some 21, .fieldA 0 (.t 1), some (20, false)⟩, 
                ⟨some 22, .load false 1 (.t 21), some (20, false)⟩, 
                ⟨some 23, .bin .eql (.t 22) (.c (.int .i64 1)), some (20, false)⟩, 
                ⟨some 24, .move (.t 23), some (20, false)⟩, 
                ⟨some 25, .fieldA 1 (.t 1), some (24, true)⟩, 
                ⟨some 26, .load false 1 (.t 25), some (24, true)⟩, 
                ⟨some 27, .len (.t 26), some (24, true)⟩, 
                ⟨some 28, .bin .neq (.t 27) (.c (.int .i64 1)), some (24, true)⟩, 
                ⟨some 29, .pick (.t 24) (.t 28) (.c (.bool false)), some (20, false)⟩, 
                ⟨some 30, .pick (.t 20) (.c (.bool true)) (.t 29), none⟩, 
                ⟨some 31, .move (.t 30), none⟩, 
                ⟨some 32, .fieldA 0 (.t 1), some (31, false)⟩, 
                ⟨some 33, .load false 1 (.t 32), some (31, false)⟩, 
                ⟨some 34, .bin .eql (.t 33) (.c (.int .i64 2)), some (31, false)⟩, 
                ⟨some 35, .move (.t 34), some (31, false)⟩, 
                ⟨some 36, .fieldA 1 (.t 1), some (35, true)⟩, 
                ⟨some 37, .load false 1 (.t 36), some (35, true)⟩, 
                ⟨some 38, .len (.t 37), some (35, true)⟩, 
                ⟨some 39, .bin .eql (.t 38) (.c (.int .i64 0)), some (35, true)⟩, 
                ⟨some 40, .move (.t 39), some (35, true)⟩, 
                ⟨some 41, .fieldA 1 (.t 1), some (40, false)⟩, 
                ⟨some 42, .load false 1 (.t 41), some (40, false)⟩, 
                ⟨some 43, .len (.t 42), some (40, false)⟩, 
                ⟨some 44, .fieldA 2 (.t 1), some (40, false)⟩, 
                ⟨some 45, .load false 1 (.t 44), some (40, false)⟩, 
                ⟨some 46, .len (.t 45), some (40, false)⟩, 
                ⟨some 47, .bin .neq (.t 43) (.t 46), some (40, false)⟩, 
                ⟨some 48, .pick (.t 40) (.c (.bool true)) (.t 47), some (35, true)⟩, 
                ⟨some 49, .pick (.t 35) (.t 48) (.c (.bool false)), some (31, false)⟩, 
                ⟨some 50, .pick (.t 31) (.c (.bool true)) (.t 49), none⟩] false)
            (.cond (.t 50)
              (.seq
                (.ops [⟨some 2, .move (.c (.int .i64 12)), none⟩] false)
                (.ret))
              (.skip)))
          (.seq
            (.seq
              (.ops [⟨some 3, .move (.c (.int .i64 0)), none⟩] false)
              (.block 0
                (.loop L34_0)))
            (.seq
              (.ops [⟨some 2, .move (.c (.int .i64 0)), none⟩] false)
              (.ret))))) }

/- slices.ContainsFunc[[]sequitur/api.Ineq,sequitur/api.Ineq] -/
def F35 : AF :=
  { ntmps := 9, results := [.tmp 4], pure := true, body :=
    .seq
      (.ops [⟨some 4, .move (.c (.bool false)), none⟩] false)
      (.seq
        (.ops [⟨some 5, .move (.t 0), none⟩, 
            ⟨some 6, .move (.t 1), none⟩, 
            ⟨some 7, .call 54 [.t 5, .t 6], none⟩, 
            ⟨some 8, .bin .geq (.t 7) (.c (.int .i64 0)), none⟩, 
            ⟨some 4, .move (.t 8), none⟩] false)
        (.ret)) }

/- sequitur/cuts.Check$1 -/
def F36 : AF :=
  { ntmps := 6, results := [.tmp 2], pure := true, body :=
    .seq
      (.ops [⟨some 1, .box 51 (.t 0), none⟩, 
          ⟨some 2, .move (.c (.bool false)), none⟩] false)
      (.seq
        (.ops [⟨some 3, .load true 3 (.t 1), none⟩, 
            ⟨some 4, .call 24 [.t 3], none⟩, 
            ⟨some 5, .bin .neq (.t 4) (.c (.int .i64 0)), none⟩, 
            ⟨some 2, .move (.t 5), none⟩] false)
        (.ret)) }

/- (sequitur/cuts.facts).check -/
def L37_0 : AC :=
  .seq
    (.ops [⟨some 41, .bin .lss (.t 40) (.t 39), none⟩] false)
    (.seq
      (.cond (.t 41)
        (.skip)
        (.exit 1))
      (.seq
        (.block 2
          (.seq
            (.ops [⟨some 42, .move (.t 40), none⟩, 
                ⟨some 43, .idxA 7 (.t 38) (.t 40), none⟩, 
                ⟨some 44, .load true 7 (.t 43), none⟩, 
                ⟨some 12, .alloc 29 [.int .i64 0, .fsl 1 [], .fsl 1 [], .int .i64 0, .int .i64 0, .fsl 2 [], .fsl 7 []], none⟩, 
                ⟨some 11, .move (.t 42), none⟩, 
                ⟨none, .store 7 (.t 12) (.t 44), none⟩] false)
            (.seq
              (.opsV [⟨some 46, .move (.t 0), none⟩, 
                  ⟨some 47, .move (.t 9), none⟩, 
                  ⟨some 48, .move (.t 11), none⟩, 
                  ⟨some 49, .idxA 3 (.t 47) (.t 48), none⟩, 
                  ⟨some 50, .load true 3 (.t 49), none⟩, 
                  ⟨some 51, .call 58 [.t 46, .t 50], none⟩, 
                  ⟨some 52, .load true 7 (.t 12), none⟩, 
                  ⟨some 53, .move (.t 2), none⟩, 
                  ⟨some 54, .move (.t 2), none⟩, 
                  ⟨some 55, .len (.t 54), none⟩, 
                  ⟨some 56, .move (.t 2), none⟩, 
                  ⟨some 57, .len (.t 56), none⟩, 
                  ⟨some 58, .slice 1 (.t 53) none (some (.t 55)) (some (.t 57)), none⟩, 
                  ⟨some 59, .move (.t 11), none⟩, 
                  ⟨some 60, .buildSl 1 [.int .i64 0] 1 [(0, .t 59)], none⟩, 
                  ⟨some 61, .append 3 1 8 (.t 58) (.t 60), none⟩, 
                  ⟨some 62, .call 37 [.t 51, .t 52, .t 61], none⟩, 
                  ⟨some 45, .move (.t 62), none⟩, 
                  ⟨some 63, .extract (.t 45) 0, none⟩, 
                  ⟨some 64, .extract (.t 45) 1, none⟩, 
                  ⟨some 13, .move (.t 63), none⟩, 
                  ⟨some 14, .move (.t 64), none⟩])
              (.seq
                (.ops [⟨some 65, .move (.t 14), none⟩, 
                    ⟨some 66, .bin .neq (.t 65) (.c (.int .i64 0)), none⟩] false)
                (.cond (.t 66)
                  (.seq
                    (.ops [⟨some 67, .move (.t 13), none⟩, 
                        ⟨some 68, .move (.t 14), none⟩, 
                        ⟨some 6, .move (.t 67), none⟩, 
                        ⟨some 7, .move (.t 68), none⟩] false)
                    (.ret))
                  (.skip))))))
        (.ops [⟨some 69, .bin .add (.t 40) (.c (.int .i64 1)), none⟩, 
            ⟨some 40, .move (.t 69), none⟩] false)))
def F37 : AF :=
  { ntmps := 70, results := [.tmp 6, .tmp 7], pure := true, body :=
    .seq
      (.ops [⟨some 4, .box 29 (.t 1), none⟩, 
          ⟨some 6, .move (.c (.fsl 1 [])), none⟩, 
          ⟨some 7, .move (.c (.int .i64 0)), none⟩] false)
      (.seq
        (.ops [⟨some 15, .move (.t 0), none⟩, 
            ⟨some 16, .mkfn (.func 55) [.t 15] [], none⟩, 
            ⟨some 8, .move (.t 16), none⟩] false)
        (.seq
          (.seq
            (.ops [⟨some 17, .fieldA 0 (.t 4), none⟩, 
                ⟨some 18, .load false 1 (.t 17), none⟩] false)
            (.block 0
              (.seq
                (.ops [⟨some 20, .bin .eql (.t 18) (.c (.int .i64 2)), none⟩, 
                    ⟨some 19, .move (.t 20), none⟩] false)
                (.cond (.t 19)
                  (.ops [⟨some 21, .move (.t 0), none⟩, 
                      ⟨some 22, .mkfn (.func 56) [.t 21] [], none⟩, 
                      ⟨some 8, .move (.t 22), none⟩] false)
                  (.seq
                    (.ops [⟨some 24, .bin .eql (.t 18) (.c (.int .i64 3)), none⟩, 
                        ⟨some 23, .move (.t 24), none⟩] false)
                    (.cond (.t 23)
                      (.ops [⟨some 25, .move (.t 0), none⟩, 
                          ⟨some 26, .mkfn (.func 57) [.t 25] [], none⟩, 
                          ⟨some 8, .move (.t 26), none⟩] false)
                      (.skip)))))))
          (.seq
            (.ops [⟨some 28, .move (.t 8), none⟩, 
                ⟨some 29, .load true 7 (.t 4), none⟩, 
                ⟨some 30, .callv (.t 28) [.t 29], none⟩, 
                ⟨some 27, .move (.t 30), none⟩, 
                ⟨some 31, .extract (.t 27) 0, none⟩, 
                ⟨some 32, .extract (.t 27) 1, none⟩, 
                ⟨some 9, .move (.t 31), none⟩, 
                ⟨some 10, .move (.t 32), none⟩] false)
            (.seq
              (.seq
                (.ops [⟨some 33, .move (.t 10), none⟩, 
                    ⟨some 34, .bin .neq (.t 33) (.c (.int .i64 0)), none⟩] false)
                (.cond (.t 34)
                  (.seq
                    (.ops [⟨some 35, .move (.t 2), none⟩, 
                        ⟨some 36, .move (.t 10), none⟩, 
                        ⟨some 6, .move (.t 35), none⟩, 
                        ⟨some 7, .move (.t 36), none⟩] false)
                    (.ret))
                  (.skip)))
              (.seq
                (.seq
                  (.ops [⟨some 37, .fieldA 6 (.t 4), none⟩, 
                      ⟨some 38, .load false 1 (.t 37), none⟩, 
                      ⟨some 39, .len (.t 38), none⟩, 
                      ⟨some 40, .move (.c (.int .i64 0)), none⟩] false)
                  (.block 1
                    (.loop L37_0)))
                (.seq
                  (.ops [⟨some 6, .move (.c (.fsl 1 [])), none⟩, 
                      ⟨some 7, .move (.c (.int .i64 0)), none⟩] false)
                  (.ret))))))) }

/- sequitur/sequiturref31.bad -/
def F38 : AF :=
  { ntmps := 5, results := [.cell 2 true 2], pure := true, body :=
    .seq
      (.ops [⟨some 2, .alloc 41 [.fsl 1 [], .int .i64 0], none⟩] false)
      (.seq
        (.ops [⟨some 3, .move (.t 0), none⟩, 
            ⟨some 4, .build [.fsl 1 [], .int .i64 0] [(1, 1, .t 3)], none⟩, 
            ⟨none, .store 2 (.t 2) (.t 4), none⟩] false)
        (.ret)) }

/- sequitur/sequiturref28.Form -/
def L39_0 : AC :=
  .seq
    (.seq
      (.ops [⟨some 4, .move (.t 3), none⟩, 
          ⟨some 5, .fieldA 1 (.t 1), none⟩, 
          ⟨some 6, .load false 1 (.t 5), none⟩, 
          ⟨some 7, .len (.t 6), none⟩, 
          ⟨some 8, .bin .lss (.t 4) (.t 7), none⟩] false)
      (.cond (.t 8)
        (.skip)
        (.exit 0)))
    (.seq
      (.block 1
        (.seq
          (.ops [⟨some 11, .fieldA 1 (.t 1), none⟩, 
              ⟨some 12, .load false 1 (.t 11), none⟩, 
              ⟨some 13, .move (.t 3), none⟩, 
              ⟨some 14, .idxA 2 (.t 12) (.t 13), none⟩, 
              ⟨some 15, .fieldA 0 (.t 14), none⟩, 
              ⟨some 16, .load false 1 (.t 15), none⟩, 
              ⟨some 17, .bin .lss (.t 16) (.c (.int .i64 0)), none⟩, 
              ⟨some 18, .move (.t 17), none⟩, 
              ⟨some 19, .fieldA 1 (.t 1), some (18, false)⟩, 
              ⟨some 20, .load false 1 (.t 19), some (18, false)⟩, 
              ⟨some 21, .move (.t 3), some (18, false)⟩, 
              ⟨some 22, .idxA 2 (.t 20) (.t 21), some (18, false)⟩, 
              ⟨some 23, .fieldA 0 (.t 22), some (18, false)⟩, 
              ⟨some 24, .load false 1 (.t 23), some (18, false)⟩, 
              ⟨some 25, .bin .geq (.t 24) (.c (.int .i64 64)), some (18, false)⟩, 
              ⟨some 26, .pick (.t 18) (.c (.bool true)) (.t 25), none⟩, 
              ⟨some 27, .move (.t 26), none⟩, 
              ⟨some 28, .fieldA 1 (.t 1), some (27, false)⟩, 
              ⟨some 29, .load false 1 (.t 28), some (27, false)⟩, 
              ⟨some 30, .move (.t 3), some (27, false)⟩, 
              ⟨some 31, .idxA 2 (.t 29) (.t 30), some (27, false)⟩, 
              ⟨some 32, .fieldA 1 (.t 31), some (27, false)⟩, 
              ⟨some 33, .load false 1 (.t 32), some (27, false)⟩, 
              ⟨some 34, .bin .eql (.t 33) (.c (.int .i64 0)), some (27, false)⟩, 
              ⟨some 35, .pick (.t 27) (.c (.bool true)) (.t 34), none⟩, 
              ⟨some 36, .move (.t 35), none⟩, 
              ⟨some 37, .move (.t 3), some (36, false)⟩, 
              ⟨some 38, .bin .gtr (.t 37) (.c (.int .i64 0)), some (36, false)⟩, 
              ⟨some 39, .move (.t 38), some (36, false)⟩, 
              ⟨some 40, .fieldA 1 (.t 1), some (39, true)⟩, 
              ⟨some 41, .load false 1 (.t 40), some (39, true)⟩, 
              ⟨some 42, .move (.t 3), some (39, true)⟩, 
              ⟨some 43, .idxA 2 (.t 41) (.t 42), some (39, true)⟩, 
              ⟨some 44, .fieldA 0 (.t 43), some (39, true)⟩, 
              ⟨some 45, .load false 1 (.t 44), some (39, true)⟩, 
              ⟨some 46, .fieldA 1 (.t 1), some (39, true)⟩, 
              ⟨some 47, .load false 1 (.t 46), some (39, true)⟩, 
              ⟨some 48, .move (.t 3), some (39, true)⟩, 
              ⟨some 49, .bin .sub (.t 48) (.c (.int .i64 1)), some (39, true)⟩, 
              ⟨some 50, .idxA 2 (.t 47) (.t 49), some (39, true)⟩, 
              ⟨some 51, .fieldA 0 (.t 50), some (39, true)⟩, 
              ⟨some 52, .load false 1 (.t 51), some (39, true)⟩, 
              ⟨some 53, .bin .leq (.t 45) (.t 52), some (39, true)⟩, 
              ⟨some 54, .pick (.t 39) (.t 53) (.c (.bool false)), some (36, false)⟩, 
              ⟨some 55, .pick (.t 36) (.c (.bool true)) (.t 54), none⟩] true)
          (.cond (.t 55)
            (.seq
              (.ops [⟨some 2, .move (.c (.bool false)), none⟩] false)
              (.ret))
            (.skip))))
      (.ops [⟨some 9, .move (.t 3), none⟩, 
          ⟨some 10, .bin .add (.t 9) (.c (.int .i64 1)), none⟩, 
          ⟨some 3, .move (.t 10), none⟩] false))
def F39 : AF :=
  { ntmps := 56, results := [.tmp 2], pure := true, body :=
    .seq
      (.ops [⟨some 1, .box 26 (.t 0), none⟩, 
          ⟨some 2, .move (.c (.bool false)), none⟩] false)
      (.seq
        (.seq
          (.ops [⟨some 3, .move (.c (.int .i64 0)), none⟩] false)
          (.block 0
            (.loop L39_0)))
        (.seq
          (.ops [⟨some 2, .move (.c (.bool true)), none⟩] false)
          (.ret))) }

/- sequitur/sequiturref31.check -/
def L40_0 : AC :=
  .seq
    (.seq
      (.ops [⟨some 13, .move (.t 6), none⟩, 
          ⟨some 14, .fieldA 1 (.t 3), none⟩, 
          ⟨some 15, .load false 1 (.t 14), none⟩, 
          ⟨some 16, .len (.t 15), none⟩, 
          ⟨some 17, .bin .lss (.t 13) (.t 16), none⟩, 
          ⟨some 18, .move (.t 17), none⟩, 
          ⟨some 19, .fieldA 0 (.t 3), some (18, true)⟩, 
          ⟨some 20, .load false 1 (.t 19), some (18, true)⟩, 
          ⟨some 21, .bin .neq (.t 20) (.c (.int .i64 3)), some (18, true)⟩, 
          ⟨some 22, .pick (.t 18) (.t 21) (.c (.bool false)), none⟩] false)
      (.cond (.t 22)
        (.skip)
        (.exit 0)))
    (.seq
      (.block 1
        (.seq
          (.seq
            (.ops [⟨some 25, .fieldA 1 (.t 3), none⟩, 
                ⟨some 26, .load false 1 (.t 25), none⟩, 
                ⟨some 27, .move (.t 6), none⟩, 
                ⟨some 28, .idxA 1 (.t 26) (.t 27), none⟩, 
                ⟨some 29, .load false 1 (.t 28), none⟩, 
                ⟨some 30, .bin .lss (.t 29) (.c (.int .i64 0)), none⟩, 
                ⟨some 31, .move (.t 30), none⟩, 
                ⟨some 32, .fieldA 1 (.t 3), some (31, false)⟩, 
                ⟨some 33, .load false 1 (.t 32), some (31, false)⟩, 
                ⟨some 34, .move (.t 6), some (31, false)⟩, 
                ⟨some 35, .idxA 1 (.t 33) (.t 34), some (31, false)⟩, 
                ⟨some 36, .load false 1 (.t 35), some (31, false)⟩, 
                ⟨some 37, .move (.t 0), some (31, false)⟩, 
                ⟨some 38, .len (.t 37), some (31, false)⟩, 
                ⟨some 39, .bin .geq (.t 36) (.t 38), some (31, false)⟩, 
                ⟨some 40, .pick (.t 31) (.c (.bool true)) (.t 39), none⟩] false)
            (.cond (.t 40)
              (.seq
                (.ops [⟨some 41, .call 38 [.c (.int .i64 3)], none⟩, 
                    ⟨none, .store 2 (.t 4) (.t 41), none⟩] false)
                (.ret))
              (.skip)))
          (.ops [⟨some 42, .move (.t 5), none⟩, 
              ⟨some 43, .move (.t 0), none⟩, 
              ⟨some 44, .fieldA 1 (.t 3), none⟩, 
              ⟨some 45, .load false 1 (.t 44), none⟩, 
              ⟨some 46, .move (.t 6), none⟩, 
              ⟨some 47, .idxA 1 (.t 45) (.t 46), none⟩, 
              ⟨some 48, .load false 1 (.t 47), none⟩, 
              ⟨some 49, .idxA 3 (.t 43) (.t 48), none⟩, 
              ⟨some 50, .load true 3 (.t 49), none⟩, 
              ⟨some 51, .buildSl 3 [.int .i64 0, .fsl 2 [], .bool false] 1 [(0, .t 50)], none⟩, 
              ⟨some 52, .append 51 3 40 (.t 42) (.t 51), none⟩, 
              ⟨some 5, .move (.t 52), none⟩] false)))
      (.ops [⟨some 23, .move (.t 6), none⟩, 
          ⟨some 24, .bin .add (.t 23) (.c (.int .i64 1)), none⟩, 
          ⟨some 6, .move (.t 24), none⟩] false))
def F40 : AF :=
  { ntmps := 120, results := [.cell 4 true 2], pure := true, body :=
    .seq
      (.ops [⟨some 3, .box 29 (.t 1), none⟩, 
          ⟨some 4, .alloc 41 [.fsl 1 [], .int .i64 0], none⟩] false)
      (.seq
        (.ops [⟨some 5, .move (.c (.fsl 3 [])), none⟩] false)
        (.seq
          (.seq
            (.ops [⟨some 6, .move (.c (.int .i64 0)), none⟩] false)
            (.block 0
              (.loop L40_0)))
          (.seq
            (.seq
              (.ops [⟨some 53, .fieldA 0 (.t 3), none⟩, 
                  ⟨some 54, .load false 1 (.t 53), none⟩, 
                  ⟨some 55, .bin .eql (.t 54) (.c (.int .i64 1)), none⟩] false)
              (.cond (.t 55)
                (.seq
                  (.seq
                    (.ops [⟨some 56, .move (.t 5), none⟩, 
                        ⟨some 57, .idxA 3 (.t 56) (.c (.int .i64 0)), none⟩, 
                        ⟨some 58, .load true 3 (.t 57), none⟩, 
                        ⟨some 59, .call 59 [.t 58], none⟩, 
                        ⟨some 60, .not (.t 59), none⟩] false)
                    (.cond (.t 60)
                      (.seq
                        (.ops [⟨some 61, .call 38 [.c (.int .i64 30)], none⟩, 
                            ⟨none, .store 2 (.t 4) (.t 61), none⟩] false)
                        (.ret))
                      (.skip)))
                  (.seq
                    (.ops [⟨some 62, .build [.fsl 1 [], .int .i64 0] [], none⟩, 
                        ⟨none, .store 2 (.t 4) (.t 62), none⟩] false)
                    (.ret)))
                (.skip)))
            (.seq
              (.seq
                (.ops [⟨some 63, .fieldA 0 (.t 3), none⟩, 
                    ⟨some 64, .load false 1 (.t 63), none⟩, 
                    ⟨some 65, .bin .eql (.t 64) (.c (.int .i64 2)), none⟩] false)
                (.cond (.t 65)
                  (.seq
                    (.ops [⟨some 67, .move (.t 5), none⟩, 
                        ⟨some 68, .fieldA 2 (.t 3), none⟩, 
                        ⟨some 69, .load false 1 (.t 68), none⟩, 
                        ⟨some 70, .fieldA 3 (.t 3), none⟩, 
                        ⟨some 71, .load false 1 (.t 70), none⟩, 
                        ⟨some 72, .call 60 [.t 67, .t 69, .t 71], none⟩, 
                        ⟨some 66, .move (.t 72), none⟩, 
                        ⟨some 73, .extract (.t 66) 0, none⟩, 
                        ⟨some 74, .extract (.t 66) 1, none⟩, 
                        ⟨some 7, .alloc 51 [.int .i64 0, .fsl 2 [], .bool false], none⟩, 
                        ⟨none, .store 3 (.t 7) (.t 73), none⟩, 
                        ⟨some 8, .move (.t 74), none⟩] false)
                    (.seq
                      (.seq
                        (.ops [⟨some 75, .move (.t 8), none⟩, 
                            ⟨some 76, .bin .neq (.t 75) (.c (.int .i64 0)), none⟩] false)
                        (.cond (.t 76)
                          (.seq
                            (.ops [⟨some 77, .move (.t 8), none⟩, 
                                ⟨some 78, .call 38 [.t 77], none⟩, 
                                ⟨none, .store 2 (.t 4) (.t 78), none⟩] false)
                            (.ret))
                          (.skip)))
                      (.seq
                        (.seq
                          (.ops [⟨some 79, .move (.t 0), none⟩, 
                              ⟨some 80, .len (.t 79), none⟩, 
                              ⟨some 81, .bin .geq (.t 80) (.c (.int .i64 1024)), none⟩] false)
                          (.cond (.t 81)
                            (.seq
                              (.ops [⟨some 82, .call 38 [.c (.int .i64 2)], none⟩, 
                                  ⟨none, .store 2 (.t 4) (.t 82), none⟩] false)
                              (.ret))
                            (.skip)))
                        (.seq
                          (.ops [⟨some 83, .move (.t 0), none⟩, 
                              ⟨some 84, .load true 3 (.t 7), none⟩, 
                              ⟨some 85, .load true 7 (.t 3), none⟩, 
                              ⟨some 86, .call 61 [.t 83, .t 84, .t 85, .c (.int .i64 0)], none⟩, 
                              ⟨none, .store 2 (.t 4) (.t 86), none⟩] false)
                          (.ret)))))
                  (.skip)))
              (.seq
                (.seq
                  (.ops [⟨some 87, .fieldA 4 (.t 3), none⟩, 
                      ⟨some 88, .load true 2 (.t 87), none⟩, 
                      ⟨some 89, .call 39 [.t 88], none⟩, 
                      ⟨some 90, .not (.t 89), none⟩] false)
                  (.cond (.t 90)
                    (.seq
                      (.ops [⟨some 91, .call 38 [.c (.int .i64 1)], none⟩, 
                          ⟨none, .store 2 (.t 4) (.t 91), none⟩] false)
                      (.ret))
                    (.skip)))
                (.seq
                  (.ops [⟨some 92, .fieldA 4 (.t 3), none⟩, 
                      ⟨some 93, .load true 2 (.t 92), none⟩, 
                      ⟨some 94, .build [.int .i64 0, .fsl 2 [], .bool false] [(0, 2, .t 93)], none⟩, 
                      ⟨some 9, .alloc 51 [.int .i64 0, .fsl 2 [], .bool false], none⟩, 
                      ⟨none, .store 3 (.t 9) (.t 94), none⟩] false)
                  (.seq
                    (.ops [⟨some 96, .load true 3 (.t 9), none⟩, 
                        ⟨some 97, .call 62 [.t 96], none⟩, 
                        ⟨some 95, .move (.t 97), none⟩, 
                        ⟨some 98, .extract (.t 95) 0, none⟩, 
                        ⟨some 99, .extract (.t 95) 1, none⟩, 
                        ⟨some 10, .alloc 51 [.int .i64 0, .fsl 2 [], .bool false], none⟩, 
                        ⟨none, .store 3 (.t 10) (.t 98), none⟩, 
                        ⟨some 11, .move (.t 99), none⟩] false)
                    (.seq
                      (.seq
                        (.ops [⟨some 100, .move (.t 11), none⟩, 
                            ⟨some 101, .bin .neq (.t 100) (.c (.int .i64 0)), none⟩] false)
                        (.cond (.t 101)
                          (.seq
                            (.ops [⟨some 102, .move (.t 11), none⟩, 
                                ⟨some 103, .call 38 [.t 102], none⟩, 
                                ⟨none, .store 2 (.t 4) (.t 103), none⟩] false)
                            (.ret))
                          (.skip)))
                      (.seq
                        (.seq
                          (.ops [⟨some 104, .move (.t 0), none⟩, 
                              ⟨some 105, .len (.t 104), none⟩, 
                              ⟨some 106, .bin .geq (.t 105) (.c (.int .i64 1024)), none⟩] false)
                          (.cond (.t 106)
                            (.seq
                              (.ops [⟨some 107, .call 38 [.c (.int .i64 2)], none⟩, 
                                  ⟨none, .store 2 (.t 4) (.t 107), none⟩] false)
                              (.ret))
                            (.skip)))
                        (.seq
                          (.ops [⟨some 108, .move (.t 0), none⟩, 
                              ⟨some 109, .load true 3 (.t 9), none⟩, 
                              ⟨some 110, .load true 7 (.t 3), none⟩, 
                              ⟨some 111, .call 61 [.t 108, .t 109, .t 110, .c (.int .i64 0)], none⟩, 
                              ⟨some 12, .alloc 41 [.fsl 1 [], .int .i64 0], none⟩, 
                              ⟨none, .store 2 (.t 12) (.t 111), none⟩] false)
                          (.seq
                            (.seq
                              (.ops [⟨some 112, .fieldA 1 (.t 12), none⟩, 
                                  ⟨some 113, .load false 1 (.t 112), none⟩, 
                                  ⟨some 114, .bin .eql (.t 113) (.c (.int .i64 0)), none⟩] false)
                              (.cond (.t 114)
                                (.ops [⟨some 115, .move (.t 0), none⟩, 
                                    ⟨some 116, .load true 3 (.t 10), none⟩, 
                                    ⟨some 117, .load true 7 (.t 3), none⟩, 
                                    ⟨some 118, .call 61 [.t 115, .t 116, .t 117, .c (.int .i64 1)], none⟩, 
                                    ⟨none, .store 2 (.t 12) (.t 118), none⟩] false)
                                (.skip)))
                            (.seq
                              (.ops [⟨some 119, .load true 2 (.t 12), none⟩, 
                                  ⟨none, .store 2 (.t 4) (.t 119), none⟩] false)
                              (.ret))))))))))))) }

/- sequitur/lin.Right -/
def L43_0 : AC :=
  .seq
    (.ops [⟨some 10, .bin .lss (.t 9) (.t 8), none⟩] false)
    (.seq
      (.cond (.t 10)
        (.skip)
        (.exit 0))
      (.seq
        (.block 1
          (.seq
            (.ops [⟨some 11, .idxA 2 (.t 7) (.t 9), none⟩, 
                ⟨some 12, .load true 2 (.t 11), none⟩, 
                ⟨some 5, .alloc 62 [.int .i64 0, .int .i64 0], none⟩, 
                ⟨none, .store 2 (.t 5) (.t 12), none⟩] false)
            (.seq
              (.seq
                (.ops [⟨some 13, .fieldA 0 (.t 5), none⟩, 
                    ⟨some 14, .load false 1 (.t 13), none⟩, 
                    ⟨some 15, .move (.t 3), none⟩, 
                    ⟨some 16, .bin .leq (.t 14) (.t 15), none⟩, 
                    ⟨some 17, .move (.t 16), none⟩, 
                    ⟨some 18, .fieldA 0 (.t 5), some (17, false)⟩, 
                    ⟨some 19, .load false 1 (.t 18), some (17, false)⟩, 
                    ⟨some 20, .bin .geq (.t 19) (.c (.int .i64 64)), some (17, false)⟩, 
                    ⟨some 21, .pick (.t 17) (.c (.bool true)) (.t 20), none⟩, 
                    ⟨some 22, .move (.t 21), none⟩, 
                    ⟨some 23, .fieldA 1 (.t 5), some (22, false)⟩, 
                    ⟨some 24, .load false 1 (.t 23), some (22, false)⟩, 
                    ⟨some 25, .bin .eql (.t 24) (.c (.int .i64 0)), some (22, false)⟩, 
                    ⟨some 26, .pick (.t 22) (.c (.bool true)) (.t 25), none⟩] false)
                (.cond (.t 26)
                  (.seq
                    (.ops [⟨some 2, .move (.c (.int .i64 1)), none⟩] false)
                    (.ret))
                  (.skip)))
              (.ops [⟨some 27, .fieldA 0 (.t 5), none⟩, 
                  ⟨some 28, .load false 1 (.t 27), none⟩, 
                  ⟨some 3, .move (.t 28), none⟩] false))))
        (.ops [⟨some 29, .bin .add (.t 9) (.c (.int .i64 1)), none⟩, 
            ⟨some 9, .move (.t 29), none⟩] false)))
def F43 : AF :=
  { ntmps := 30, results := [.tmp 2], pure := true, body :=
    .seq
      (.ops [⟨some 1, .box 26 (.t 0), none⟩, 
          ⟨some 2, .move (.c (.int .i64 0)), none⟩] false)
      (.seq
        (.ops [⟨some 3, .move (.c (.int .i64 (-1))), none⟩] false)
        (.seq
          (.seq
            (.ops [⟨some 6, .fieldA 1 (.t 1), none⟩, 
                ⟨some 7, .load false 1 (.t 6), none⟩, 
                ⟨some 8, .len (.t 7), none⟩, 
                ⟨some 9, .move (.c (.int .i64 0)), none⟩] false)
            (.block 0
              (.loop L43_0)))
          (.seq
            (.ops [⟨some 2, .move (.c (.int .i64 0)), none⟩] false)
            (.ret)))) }

/- sequitur/ineq.Holds -/
def F46 : AF :=
  { ntmps := 35, results := [.tmp 4, .tmp 5], pure := true, body :=
    .seq
      (.ops [⟨some 2, .box 51 (.t 0), none⟩, 
          ⟨some 4, .move (.c (.bool false)), none⟩, 
          ⟨some 5, .move (.c (.int .i64 0)), none⟩] false)
      (.seq
        (.seq
          (.ops [⟨some 9, .load true 3 (.t 2), none⟩, 
              ⟨some 10, .call 24 [.t 9], none⟩, 
              ⟨some 6, .move (.t 10), none⟩] false)
          (.seq
            (.ops [⟨some 11, .move (.t 6), none⟩, 
                ⟨some 12, .bin .neq (.t 11) (.c (.int .i64 0)), none⟩] false)
            (.cond (.t 12)
              (.seq
                (.ops [⟨some 13, .move (.t 6), none⟩, 
                    ⟨some 4, .move (.c (.bool false)), none⟩, 
                    ⟨some 5, .move (.t 13), none⟩] false)
                (.ret))
              (.skip))))
        (.seq
          (.ops [⟨some 15, .fieldA 0 (.t 2), none⟩, 
              ⟨some 16, .load true 2 (.t 15), none⟩, 
              ⟨some 17, .move (.t 1), none⟩, 
              ⟨some 18, .call 63 [.t 16, .t 17], none⟩, 
              ⟨some 14, .move (.t 18), none⟩, 
              ⟨some 19, .extract (.t 14) 0, none⟩, 
              ⟨some 20, .extract (.t 14) 1, none⟩, 
              ⟨some 7, .move (.t 19), none⟩, 
              ⟨some 8, .move (.t 20), none⟩] false)
          (.seq
            (.seq
              (.ops [⟨some 21, .move (.t 8), none⟩, 
                  ⟨some 22, .bin .neq (.t 21) (.c (.int .i64 0)), none⟩] false)
              (.cond (.t 22)
                (.seq
                  (.ops [⟨some 23, .move (.t 8), none⟩, 
                      ⟨some 4, .move (.c (.bool false)), none⟩, 
                      ⟨some 5, .move (.t 23), none⟩] false)
                  (.ret))
                (.skip)))
            (.seq
              (.ops [⟨some 24, .move (.t 7), none⟩, 
                  ⟨some 25, .bin .eql (.t 24) (.c (.int .i64 0)), none⟩, 
                  ⟨some 26, .move (.t 25), none⟩, 
                  ⟨some 27, .move (.t 7), some (26, false)⟩, 
                  ⟨some 28, .bin .lss (.t 27) (.c (.int .i64 0)), some (26, false)⟩, 
                  ⟨some 29, .move (.t 28), some (26, false)⟩, 
                  ⟨some 30, .fieldA 2 (.t 2), some (29, true)⟩, 
                  ⟨some 31, .load false 1 (.t 30), some (29, true)⟩, 
                  ⟨some 32, .not (.t 31), some (29, true)⟩, 
                  ⟨some 33, .pick (.t 29) (.t 32) (.c (.bool false)), some (26, false)⟩, 
                  ⟨some 34, .pick (.t 26) (.c (.bool true)) (.t 33), none⟩, 
                  ⟨some 4, .move (.t 34), none⟩, 
                  ⟨some 5, .move (.c (.int .i64 0)), none⟩] false)
              (.ret))))) }

/- sequitur/sequiturbase.Int64s -/
def L47_0 : AC :=
  .seq
    (.seq
      (.ops [⟨some 11, .move (.t 5), none⟩, 
          ⟨some 12, .move (.t 0), none⟩, 
          ⟨some 13, .len (.t 12), none⟩, 
          ⟨some 14, .bin .lss (.t 11) (.t 13), none⟩] false)
      (.cond (.t 14)
        (.skip)
        (.exit 0)))
    (.seq
      (.block 1
        (.seq
          (.ops [⟨some 17, .move (.t 0), none⟩, 
              ⟨some 18, .move (.t 5), none⟩, 
              ⟨some 19, .idxA 1 (.t 17) (.t 18), none⟩, 
              ⟨some 20, .load false 1 (.t 19), none⟩, 
              ⟨some 21, .move (.t 1), none⟩, 
              ⟨some 22, .move (.t 5), none⟩, 
              ⟨some 23, .idxA 1 (.t 21) (.t 22), none⟩, 
              ⟨some 24, .load false 1 (.t 23), none⟩, 
              ⟨some 25, .bin .neq (.t 20) (.t 24), none⟩] true)
          (.cond (.t 25)
            (.seq
              (.ops [⟨some 4, .move (.c (.bool false)), none⟩] false)
              (.ret))
            (.skip))))
      (.ops [⟨some 15, .move (.t 5), none⟩, 
          ⟨some 16, .bin .add (.t 15) (.c (.int .i64 1)), none⟩, 
          ⟨some 5, .move (.t 16), none⟩] false))
def F47 : AF :=
  { ntmps := 26, results := [.tmp 4], pure := true, body :=
    .seq
      (.ops [⟨some 4, .move (.c (.bool false)), none⟩] false)
      (.seq
        (.seq
          (.ops [⟨some 6, .move (.t 0), none⟩, 
              ⟨some 7, .len (.t 6), none⟩, 
              ⟨some 8, .move (.t 1), none⟩, 
              ⟨some 9, .len (.t 8), none⟩, 
              ⟨some 10, .bin .neq (.t 7) (.t 9), none⟩] false)
          (.cond (.t 10)
            (.seq
              (.ops [⟨some 4, .move (.c (.bool false)), none⟩] false)
              (.ret))
            (.skip)))
        (.seq
          (.seq
            (.ops [⟨some 5, .move (.c (.int .i64 0)), none⟩] false)
            (.block 0
              (.loop L47_0)))
          (.seq
            (.ops [⟨some 4, .move (.c (.bool true)), none⟩] false)
            (.ret)))) }

/- sequitur/sequiturbase.Lin -/
def F48 : AF :=
  { ntmps := 17, results := [.tmp 4], pure := true, body :=
    .seq
      (.ops [⟨some 2, .box 26 (.t 0), none⟩, 
          ⟨some 3, .box 26 (.t 1), none⟩, 
          ⟨some 4, .move (.c (.bool false)), none⟩] false)
      (.seq
        (.ops [⟨some 5, .fieldA 0 (.t 2), none⟩, 
            ⟨some 6, .load false 1 (.t 5), none⟩, 
            ⟨some 7, .fieldA 0 (.t 3), none⟩, 
            ⟨some 8, .load false 1 (.t 7), none⟩, 
            ⟨some 9, .bin .eql (.t 6) (.t 8), none⟩, 
            ⟨some 10, .move (.t 9), none⟩, 
            ⟨some 11, .fieldA 1 (.t 2), some (10, true)⟩, 
            ⟨some 12, .load false 1 (.t 11), some (10, true)⟩, 
            ⟨some 13, .fieldA 1 (.t 3), some (10, true)⟩, 
            ⟨some 14, .load false 1 (.t 13), some (10, true)⟩, 
            ⟨some 15, .call 64 [.t 12, .t 14], some (10, true)⟩, 
            ⟨some 16, .pick (.t 10) (.t 15) (.c (.bool false)), none⟩, 
            ⟨some 4, .move (.t 16), none⟩] false)
        (.ret)) }

/- sequitur/sequiturbase.Cuts -/
def L49_0 : AC :=
  .seq
    (.seq
      (.ops [⟨some 11, .move (.t 5), none⟩, 
          ⟨some 12, .move (.t 0), none⟩, 
          ⟨some 13, .len (.t 12), none⟩, 
          ⟨some 14, .bin .lss (.t 11) (.t 13), none⟩] false)
      (.cond (.t 14)
        (.skip)
        (.exit 0)))
    (.seq
      (.block 1
        (.seq
          (.ops [⟨some 17, .move (.t 0), none⟩, 
              ⟨some 18, .move (.t 5), none⟩, 
              ⟨some 19, .idxA 7 (.t 17) (.t 18), none⟩, 
              ⟨some 20, .load true 7 (.t 19), none⟩, 
              ⟨some 21, .move (.t 1), none⟩, 
              ⟨some 22, .move (.t 5), none⟩, 
              ⟨some 23, .idxA 7 (.t 21) (.t 22), none⟩, 
              ⟨some 24, .load true 7 (.t 23), none⟩, 
              ⟨some 25, .call 28 [.t 20, .t 24], none⟩, 
              ⟨some 26, .not (.t 25), none⟩] true)
          (.cond (.t 26)
            (.seq
              (.ops [⟨some 4, .move (.c (.bool false)), none⟩] false)
              (.ret))
            (.skip))))
      (.ops [⟨some 15, .move (.t 5), none⟩, 
          ⟨some 16, .bin .add (.t 15) (.c (.int .i64 1)), none⟩, 
          ⟨some 5, .move (.t 16), none⟩] false))
def F49 : AF :=
  { ntmps := 27, results := [.tmp 4], pure := true, body :=
    .seq
      (.ops [⟨some 4, .move (.c (.bool false)), none⟩] false)
      (.seq
        (.seq
          (.ops [⟨some 6, .move (.t 0), none⟩, 
              ⟨some 7, .len (.t 6), none⟩, 
              ⟨some 8, .move (.t 1), none⟩, 
              ⟨some 9, .len (.t 8), none⟩, 
              ⟨some 10, .bin .neq (.t 7) (.t 9), none⟩] false)
          (.cond (.t 10)
            (.seq
              (.ops [⟨some 4, .move (.c (.bool false)), none⟩] false)
              (.ret))
            (.skip)))
        (.seq
          (.seq
            (.ops [⟨some 5, .move (.c (.int .i64 0)), none⟩] false)
            (.block 0
              (.loop L49_0)))
          (.seq
            (.ops [⟨some 4, .move (.c (.bool true)), none⟩] false)
            (.ret)))) }

/- sequitur/cuts.Uses$1 -/
def L50_0 : AC :=
  .seq
    (.ops [⟨some 13, .bin .lss (.t 12) (.t 11), none⟩] false)
    (.seq
      (.cond (.t 13)
        (.skip)
        (.exit 0))
      (.seq
        (.block 1
          (.seq
            (.ops [⟨some 14, .idxA 1 (.t 10) (.t 12), none⟩, 
                ⟨some 15, .load false 1 (.t 14), none⟩, 
                ⟨some 8, .move (.t 15), none⟩] false)
            (.seq
              (.ops [⟨some 16, .move (.t 8), none⟩, 
                  ⟨some 17, .bin .geq (.t 16) (.c (.int .i64 0)), none⟩, 
                  ⟨some 18, .move (.t 17), none⟩, 
                  ⟨some 19, .move (.t 8), some (18, true)⟩, 
                  ⟨some 20, .load false 1 (.t 2), some (18, true)⟩, 
                  ⟨some 21, .bin .lss (.t 19) (.t 20), some (18, true)⟩, 
                  ⟨some 22, .pick (.t 18) (.t 21) (.c (.bool false)), none⟩] false)
              (.cond (.t 22)
                (.ops [⟨some 23, .load false 1 (.t 3), none⟩, 
                    ⟨some 24, .move (.t 8), none⟩, 
                    ⟨some 25, .buildSl 1 [.int .i64 0] 1 [(0, .t 24)], none⟩, 
                    ⟨some 26, .append 3 1 8 (.t 23) (.t 25), none⟩, 
                    ⟨none, .store 1 (.t 3) (.t 26), none⟩] false)
                (.skip)))))
        (.ops [⟨some 27, .bin .add (.t 12) (.c (.int .i64 1)), none⟩, 
            ⟨some 12, .move (.t 27), none⟩] false)))
def F50 : AF :=
  { ntmps := 28, results := [.tmp 6], pure := false, body :=
    .seq
      (.ops [⟨some 4, .box 29 (.t 0), none⟩, 
          ⟨some 6, .move (.c (.int .i64 0)), none⟩] false)
      (.seq
        (.seq
          (.ops [⟨some 9, .fieldA 1 (.t 4), none⟩, 
              ⟨some 10, .load false 1 (.t 9), none⟩, 
              ⟨some 11, .len (.t 10), none⟩, 
              ⟨some 12, .move (.c (.int .i64 0)), none⟩] false)
          (.block 0
            (.loop L50_0)))
        (.seq
          (.ops [⟨some 6, .move (.c (.int .i64 0)), none⟩] false)
          (.ret))) }

/- sequitur/sequiturref31.has -/
def L53_0 : AC :=
  .seq
    (.seq
      (.ops [⟨some 7, .move (.t 5), none⟩, 
          ⟨some 8, .fieldA 1 (.t 2), none⟩, 
          ⟨some 9, .load false 1 (.t 8), none⟩, 
          ⟨some 10, .len (.t 9), none⟩, 
          ⟨some 11, .bin .lss (.t 7) (.t 10), none⟩] false)
      (.cond (.t 11)
        (.skip)
        (.exit 0)))
    (.seq
      (.block 1
        (.seq
          (.ops [⟨some 14, .fieldA 1 (.t 2), none⟩, 
              ⟨some 15, .load false 1 (.t 14), none⟩, 
              ⟨some 16, .move (.t 5), none⟩, 
              ⟨some 17, .idxA 1 (.t 15) (.t 16), none⟩, 
              ⟨some 18, .load false 1 (.t 17), none⟩, 
              ⟨some 19, .move (.t 1), none⟩, 
              ⟨some 20, .bin .eql (.t 18) (.t 19), none⟩] false)
          (.cond (.t 20)
            (.seq
              (.ops [⟨some 4, .move (.c (.bool true)), none⟩] false)
              (.ret))
            (.skip))))
      (.ops [⟨some 12, .move (.t 5), none⟩, 
          ⟨some 13, .bin .add (.t 12) (.c (.int .i64 1)), none⟩, 
          ⟨some 5, .move (.t 13), none⟩] false))

def L53_1 : AC :=
  .seq
    (.seq
      (.ops [⟨some 21, .move (.t 6), none⟩, 
          ⟨some 22, .fieldA 6 (.t 2), none⟩, 
          ⟨some 23, .load false 1 (.t 22), none⟩, 
          ⟨some 24, .len (.t 23), none⟩, 
          ⟨some 25, .bin .lss (.t 21) (.t 24), none⟩] false)
      (.cond (.t 25)
        (.skip)
        (.exit 2)))
    (.seq
      (.block 3
        (.seq
          (.ops [⟨some 28, .fieldA 6 (.t 2), none⟩, 
              ⟨some 29, .load false 1 (.t 28), none⟩, 
              ⟨some 30, .move (.t 6), none⟩, 
              ⟨some 31, .idxA 7 (.t 29) (.t 30), none⟩, 
              ⟨some 32, .load true 7 (.t 31), none⟩, 
              ⟨some 33, .move (.t 1), none⟩, 
              ⟨some 34, .call 53 [.t 32, .t 33], none⟩] false)
          (.cond (.t 34)
            (.seq
              (.ops [⟨some 4, .move (.c (.bool true)), none⟩] false)
              (.ret))
            (.skip))))
      (.ops [⟨some 26, .move (.t 6), none⟩, 
          ⟨some 27, .bin .add (.t 26) (.c (.int .i64 1)), none⟩, 
          ⟨some 6, .move (.t 27), none⟩] false))
def F53 : AF :=
  { ntmps := 35, results := [.tmp 4], pure := true, body :=
    .seq
      (.ops [⟨some 2, .box 29 (.t 0), none⟩, 
          ⟨some 4, .move (.c (.bool false)), none⟩] false)
      (.seq
        (.seq
          (.ops [⟨some 5, .move (.c (.int .i64 0)), none⟩] false)
          (.block 0
            (.loop L53_0)))
        (.seq
          (.seq
            (.ops [⟨some 6, .move (.c (.int .i64 0)), none⟩] false)
            (.block 2
              (.loop L53_1)))
          (.seq
            (.ops [⟨some 4, .move (.c (.bool false)), none⟩] false)
            (.ret)))) }

/- slices.IndexFunc[[]sequitur/api.Ineq,sequitur/api.Ineq] -/
def L54_0 : AC :=
  .seq
    (.ops [⟨some 9, .bin .lss (.t 8) (.t 7), none⟩] false)
    (.seq
      (.cond (.t 9)
        (.skip)
        (.exit 0))
      (.seq
        (.block 1
          (.seq
            (.ops [⟨some 10, .move (.t 8), none⟩, 
                ⟨some 5, .move (.t 10), none⟩] false)
            (.seq
              (.ops [⟨some 11, .move (.t 1), none⟩, 
                  ⟨some 12, .move (.t 0), none⟩, 
                  ⟨some 13, .move (.t 5), none⟩, 
                  ⟨some 14, .idxA 3 (.t 12) (.t 13), none⟩, 
                  ⟨some 15, .load true 3 (.t 14), none⟩, 
                  ⟨some 16, .callv (.t 11) [.t 15], none⟩] false)
              (.cond (.t 16)
                (.seq
                  (.ops [⟨some 17, .move (.t 5), none⟩, 
                      ⟨some 4, .move (.t 17), none⟩] false)
                  (.ret))
                (.skip)))))
        (.ops [⟨some 18, .bin .add (.t 8) (.c (.int .i64 1)), none⟩, 
            ⟨some 8, .move (.t 18), none⟩] false)))
def F54 : AF :=
  { ntmps := 19, results := [.tmp 4], pure := true, body :=
    .seq
      (.ops [⟨some 4, .move (.c (.int .i64 0)), none⟩] false)
      (.seq
        (.seq
          (.ops [⟨some 6, .move (.t 0), none⟩, 
              ⟨some 7, .len (.t 6), none⟩, 
              ⟨some 8, .move (.c (.int .i64 0)), none⟩] false)
          (.block 0
            (.loop L54_0)))
        (.seq
          (.ops [⟨some 4, .move (.c (.int .i64 (-1))), none⟩] false)
          (.ret))) }

/- (sequitur/cuts.facts).end -/
def F55 : AF :=
  { ntmps := 25, results := [.tmp 4, .tmp 5], pure := true, body :=
    .seq
      (.ops [⟨some 3, .box 29 (.t 1), none⟩, 
          ⟨some 4, .move (.c (.fsl 3 [])), none⟩, 
          ⟨some 5, .move (.c (.int .i64 0)), none⟩] false)
      (.seq
        (.ops [⟨some 9, .move (.t 0), none⟩, 
            ⟨some 10, .fieldA 1 (.t 3), none⟩, 
            ⟨some 11, .load false 1 (.t 10), none⟩, 
            ⟨some 12, .call 67 [.t 9, .t 11], none⟩, 
            ⟨some 8, .move (.t 12), none⟩, 
            ⟨some 13, .extract (.t 8) 0, none⟩, 
            ⟨some 14, .extract (.t 8) 1, none⟩, 
            ⟨some 6, .move (.t 13), none⟩, 
            ⟨some 7, .move (.t 14), none⟩] false)
        (.seq
          (.seq
            (.ops [⟨some 15, .move (.t 7), none⟩, 
                ⟨some 16, .bin .eql (.t 15) (.c (.int .i64 0)), none⟩, 
                ⟨some 17, .move (.t 16), none⟩, 
                ⟨some 18, .move (.t 6), some (17, true)⟩, 
                ⟨some 19, .idxA 3 (.t 18) (.c (.int .i64 0)), some (17, true)⟩, 
                ⟨some 20, .load true 3 (.t 19), some (17, true)⟩, 
                ⟨some 21, .call 68 [.t 20], some (17, true)⟩, 
                ⟨some 22, .not (.t 21), some (17, true)⟩, 
                ⟨some 23, .pick (.t 17) (.t 22) (.c (.bool false)), none⟩] false)
            (.cond (.t 23)
              (.ops [⟨some 7, .move (.c (.int .i64 30)), none⟩] false)
              (.skip)))
          (.seq
            (.ops [⟨some 24, .move (.t 7), none⟩, 
                ⟨some 4, .move (.c (.fsl 3 [])), none⟩, 
                ⟨some 5, .move (.t 24), none⟩] false)
            (.ret)))) }

/- (sequitur/cuts.facts).sum -/
def F56 : AF :=
  { ntmps := 35, results := [.tmp 4, .tmp 5], pure := true, body :=
    .seq
      (.ops [⟨some 3, .box 29 (.t 1), none⟩, 
          ⟨some 4, .move (.c (.fsl 3 [])), none⟩, 
          ⟨some 5, .move (.c (.int .i64 0)), none⟩] false)
      (.seq
        (.ops [⟨some 10, .move (.t 0), none⟩, 
            ⟨some 11, .fieldA 1 (.t 3), none⟩, 
            ⟨some 12, .load false 1 (.t 11), none⟩, 
            ⟨some 13, .call 67 [.t 10, .t 12], none⟩, 
            ⟨some 9, .move (.t 13), none⟩, 
            ⟨some 14, .extract (.t 9) 0, none⟩, 
            ⟨some 15, .extract (.t 9) 1, none⟩, 
            ⟨some 6, .move (.t 14), none⟩, 
            ⟨some 7, .move (.t 15), none⟩] false)
        (.seq
          (.seq
            (.ops [⟨some 16, .move (.t 7), none⟩, 
                ⟨some 17, .bin .neq (.t 16) (.c (.int .i64 0)), none⟩] false)
            (.cond (.t 17)
              (.seq
                (.ops [⟨some 18, .move (.t 7), none⟩, 
                    ⟨some 4, .move (.c (.fsl 3 [])), none⟩, 
                    ⟨some 5, .move (.t 18), none⟩] false)
                (.ret))
              (.skip)))
          (.seq
            (.ops [⟨some 20, .move (.t 6), none⟩, 
                ⟨some 21, .fieldA 2 (.t 3), none⟩, 
                ⟨some 22, .load false 1 (.t 21), none⟩, 
                ⟨some 23, .fieldA 3 (.t 3), none⟩, 
                ⟨some 24, .load false 1 (.t 23), none⟩, 
                ⟨some 25, .call 69 [.t 20, .t 22, .t 24], none⟩, 
                ⟨some 19, .move (.t 25), none⟩, 
                ⟨some 26, .extract (.t 19) 0, none⟩, 
                ⟨some 27, .extract (.t 19) 1, none⟩, 
                ⟨some 8, .alloc 51 [.int .i64 0, .fsl 2 [], .bool false], none⟩, 
                ⟨none, .store 3 (.t 8) (.t 26), none⟩, 
                ⟨some 7, .move (.t 27), none⟩] false)
            (.seq
              (.seq
                (.ops [⟨some 28, .move (.t 7), none⟩, 
                    ⟨some 29, .bin .neq (.t 28) (.c (.int .i64 0)), none⟩] false)
                (.cond (.t 29)
                  (.seq
                    (.ops [⟨some 30, .move (.t 7), none⟩, 
                        ⟨some 4, .move (.c (.fsl 3 [])), none⟩, 
                        ⟨some 5, .move (.t 30), none⟩] false)
                    (.ret))
                  (.skip)))
              (.seq
                (.ops [⟨some 31, .load true 3 (.t 8), none⟩, 
                    ⟨some 32, .buildSl 3 [.int .i64 0, .fsl 2 [], .bool false] 1 [(0, .t 31)], none⟩, 
                    ⟨some 33, .move (.t 0), none⟩, 
                    ⟨some 34, .call 70 [.t 33], none⟩, 
                    ⟨some 4, .move (.t 32), none⟩, 
                    ⟨some 5, .move (.t 34), none⟩] true)
                (.ret)))))) }

/- (sequitur/cuts.facts).split -/
def F57 : AF :=
  { ntmps := 29, results := [.tmp 4, .tmp 5], pure := true, body :=
    .seq
      (.ops [⟨some 3, .box 29 (.t 1), none⟩, 
          ⟨some 4, .move (.c (.fsl 3 [])), none⟩, 
          ⟨some 5, .move (.c (.int .i64 0)), none⟩] false)
      (.seq
        (.ops [⟨some 9, .fieldA 4 (.t 3), none⟩, 
            ⟨some 10, .load true 2 (.t 9), none⟩, 
            ⟨some 11, .build [.int .i64 0, .fsl 2 [], .bool false] [(0, 2, .t 10)], none⟩, 
            ⟨some 6, .alloc 51 [.int .i64 0, .fsl 2 [], .bool false], none⟩, 
            ⟨none, .store 3 (.t 6) (.t 11), none⟩] false)
        (.seq
          (.seq
            (.ops [⟨some 12, .fieldA 4 (.t 3), none⟩, 
                ⟨some 13, .load true 2 (.t 12), none⟩, 
                ⟨some 14, .call 43 [.t 13], none⟩, 
                ⟨some 15, .bin .neq (.t 14) (.c (.int .i64 0)), none⟩] false)
            (.cond (.t 15)
              (.seq
                (.ops [⟨some 4, .move (.c (.fsl 3 [])), none⟩, 
                    ⟨some 5, .move (.c (.int .i64 1)), none⟩] false)
                (.ret))
              (.skip)))
          (.seq
            (.ops [⟨some 17, .load true 3 (.t 6), none⟩, 
                ⟨some 18, .call 71 [.t 17], none⟩, 
                ⟨some 16, .move (.t 18), none⟩, 
                ⟨some 19, .extract (.t 16) 0, none⟩, 
                ⟨some 20, .extract (.t 16) 1, none⟩, 
                ⟨some 7, .alloc 51 [.int .i64 0, .fsl 2 [], .bool false], none⟩, 
                ⟨none, .store 3 (.t 7) (.t 19), none⟩, 
                ⟨some 8, .move (.t 20), none⟩] false)
            (.seq
              (.seq
                (.ops [⟨some 21, .move (.t 8), none⟩, 
                    ⟨some 22, .bin .neq (.t 21) (.c (.int .i64 0)), none⟩] false)
                (.cond (.t 22)
                  (.seq
                    (.ops [⟨some 23, .move (.t 8), none⟩, 
                        ⟨some 4, .move (.c (.fsl 3 [])), none⟩, 
                        ⟨some 5, .move (.t 23), none⟩] false)
                    (.ret))
                  (.skip)))
              (.seq
                (.ops [⟨some 24, .load true 3 (.t 6), none⟩, 
                    ⟨some 25, .load true 3 (.t 7), none⟩, 
                    ⟨some 26, .buildSl 3 [.int .i64 0, .fsl 2 [], .bool false] 2 [(0, .t 24), (1, .t 25)], none⟩, 
                    ⟨some 27, .move (.t 0), none⟩, 
                    ⟨some 28, .call 70 [.t 27], none⟩, 
                    ⟨some 4, .move (.t 26), none⟩, 
                    ⟨some 5, .move (.t 28), none⟩] true)
                (.ret)))))) }

/- (sequitur/cuts.facts).with -/
def F58 : AF :=
  { ntmps := 14, results := [.tmp 4], pure := true, body :=
    .seq
      (.ops [⟨some 3, .box 51 (.t 1), none⟩, 
          ⟨some 4, .move (.c (.fsl 3 [])), none⟩] false)
      (.seq
        (.ops [⟨some 5, .move (.t 0), none⟩, 
            ⟨some 6, .move (.t 0), none⟩, 
            ⟨some 7, .len (.t 6), none⟩, 
            ⟨some 8, .move (.t 0), none⟩, 
            ⟨some 9, .len (.t 8), none⟩, 
            ⟨some 10, .slice 3 (.t 5) none (some (.t 7)) (some (.t 9)), none⟩, 
            ⟨some 11, .load true 3 (.t 3), none⟩, 
            ⟨some 12, .buildSl 3 [.int .i64 0, .fsl 2 [], .bool false] 1 [(0, .t 11)], none⟩, 
            ⟨some 13, .append 51 3 40 (.t 10) (.t 12), none⟩, 
            ⟨some 4, .move (.t 13), none⟩] true)
        (.ret)) }

/- sequitur/sequiturref28.Absurd -/
def F59 : AF :=
  { ntmps := 24, results := [.tmp 2], pure := true, body :=
    .seq
      (.ops [⟨some 1, .box 51 (.t 0), none⟩, 
          ⟨some 2, .move (.c (.bool false)), none⟩] false)
      (.seq
        (.ops [⟨some 3, .fieldA 0 (.t 1), none⟩, 
            ⟨some 4, .fieldA 1 (.t 3), none⟩, 
            ⟨some 5, .load false 1 (.t 4), none⟩, 
            ⟨some 6, .len (.t 5), none⟩, 
            ⟨some 7, .bin .eql (.t 6) (.c (.int .i64 0)), none⟩, 
            ⟨some 8, .move (.t 7), none⟩, 
            ⟨some 9, .fieldA 0 (.t 1), some (8, true)⟩, 
            ⟨some 10, .fieldA 0 (.t 9), some (8, true)⟩, 
            ⟨some 11, .load false 1 (.t 10), some (8, true)⟩, 
            ⟨some 12, .bin .gtr (.t 11) (.c (.int .i64 0)), some (8, true)⟩, 
            ⟨some 13, .move (.t 12), some (8, true)⟩, 
            ⟨some 14, .fieldA 2 (.t 1), some (13, false)⟩, 
            ⟨some 15, .load false 1 (.t 14), some (13, false)⟩, 
            ⟨some 16, .move (.t 15), some (13, false)⟩, 
            ⟨some 17, .fieldA 0 (.t 1), some (16, true)⟩, 
            ⟨some 18, .fieldA 0 (.t 17), some (16, true)⟩, 
            ⟨some 19, .load false 1 (.t 18), some (16, true)⟩, 
            ⟨some 20, .bin .lss (.t 19) (.c (.int .i64 0)), some (16, true)⟩, 
            ⟨some 21, .pick (.t 16) (.t 20) (.c (.bool false)), some (13, false)⟩, 
            ⟨some 22, .pick (.t 13) (.c (.bool true)) (.t 21), some (8, true)⟩, 
            ⟨some 23, .pick (.t 8) (.t 22) (.c (.bool false)), none⟩, 
            ⟨some 2, .move (.t 23), none⟩] false)
        (.ret)) }

/- sequitur/sequiturref28.Sum -/
def L60_0 : AC :=
  .seq
    (.seq
      (.ops [⟨some 31, .move (.t 10), none⟩, 
          ⟨some 32, .move (.t 0), none⟩, 
          ⟨some 33, .len (.t 32), none⟩, 
          ⟨some 34, .bin .lss (.t 31) (.t 33), none⟩] false)
      (.cond (.t 34)
        (.skip)
        (.exit 0)))
    (.seq
      (.block 1
        (.seq
          (.seq
            (.ops [⟨some 37, .move (.t 0), none⟩, 
                ⟨some 38, .move (.t 10), none⟩, 
                ⟨some 39, .idxA 3 (.t 37) (.t 38), none⟩, 
                ⟨some 40, .fieldA 0 (.t 39), none⟩, 
                ⟨some 41, .load true 2 (.t 40), none⟩, 
                ⟨some 42, .call 39 [.t 41], none⟩, 
                ⟨some 43, .not (.t 42), none⟩, 
                ⟨some 44, .move (.t 43), none⟩, 
                ⟨some 45, .move (.t 1), some (44, false)⟩, 
                ⟨some 46, .move (.t 10), some (44, false)⟩, 
                ⟨some 47, .idxA 1 (.t 45) (.t 46), some (44, false)⟩, 
                ⟨some 48, .load false 1 (.t 47), some (44, false)⟩, 
                ⟨some 49, .bin .lss (.t 48) (.c (.int .i64 0)), some (44, false)⟩, 
                ⟨some 50, .move (.t 49), some (44, false)⟩, 
                ⟨some 51, .move (.t 0), some (50, true)⟩, 
                ⟨some 52, .move (.t 10), some (50, true)⟩, 
                ⟨some 53, .idxA 3 (.t 51) (.t 52), some (50, true)⟩, 
                ⟨some 54, .fieldA 2 (.t 53), some (50, true)⟩, 
                ⟨some 55, .load false 1 (.t 54), some (50, true)⟩, 
                ⟨some 56, .not (.t 55), some (50, true)⟩, 
                ⟨some 57, .pick (.t 50) (.t 56) (.c (.bool false)), some (44, false)⟩, 
                ⟨some 58, .pick (.t 44) (.c (.bool true)) (.t 57), none⟩] false)
            (.cond (.t 58)
              (.seq
                (.ops [⟨some 59, .build [.int .i64 0, .fsl 2 [], .bool false] [], none⟩, 
                    ⟨none, .store 3 (.t 6) (.t 59), none⟩, 
                    ⟨some 7, .move (.c (.int .i64 1)), none⟩] false)
                (.ret))
              (.skip)))
          (.seq
            (.ops [⟨some 60, .move (.t 8), none⟩, 
                ⟨some 61, .move (.t 0), none⟩, 
                ⟨some 62, .move (.t 10), none⟩, 
                ⟨some 63, .idxA 3 (.t 61) (.t 62), none⟩, 
                ⟨some 64, .fieldA 0 (.t 63), none⟩, 
                ⟨some 65, .load true 2 (.t 64), none⟩, 
                ⟨some 66, .buildSl 2 [.int .i64 0, .fsl 2 []] 1 [(0, .t 65)], none⟩, 
                ⟨some 67, .append 26 2 32 (.t 60) (.t 66), none⟩, 
                ⟨some 8, .move (.t 67), none⟩] false)
            (.ops [⟨some 68, .move (.t 9), none⟩, 
                ⟨some 69, .move (.t 68), none⟩, 
                ⟨some 70, .move (.t 0), some (69, true)⟩, 
                ⟨some 71, .move (.t 10), some (69, true)⟩, 
                ⟨some 72, .idxA 3 (.t 70) (.t 71), some (69, true)⟩, 
                ⟨some 73, .fieldA 2 (.t 72), some (69, true)⟩, 
                ⟨some 74, .load false 1 (.t 73), some (69, true)⟩, 
                ⟨some 75, .pick (.t 69) (.t 74) (.c (.bool false)), none⟩, 
                ⟨some 9, .move (.t 75), none⟩] false))))
      (.ops [⟨some 35, .move (.t 10), none⟩, 
          ⟨some 36, .bin .add (.t 35) (.c (.int .i64 1)), none⟩, 
          ⟨some 10, .move (.t 36), none⟩] false))

def L60_1 : AC :=
  .seq
    (.seq
      (.ops [⟨some 86, .move (.t 13), none⟩, 
          ⟨some 87, .fieldA 1 (.t 11), none⟩, 
          ⟨some 88, .load false 1 (.t 87), none⟩, 
          ⟨some 89, .len (.t 88), none⟩, 
          ⟨some 90, .bin .lss (.t 86) (.t 89), none⟩] false)
      (.cond (.t 90)
        (.skip)
        (.exit 2)))
    (.seq
      (.block 3
        (.seq
          (.ops [⟨some 93, .fieldA 1 (.t 11), none⟩, 
              ⟨some 94, .load false 1 (.t 93), none⟩, 
              ⟨some 95, .move (.t 13), none⟩, 
              ⟨some 96, .idxA 2 (.t 94) (.t 95), none⟩, 
              ⟨some 97, .fieldA 1 (.t 96), none⟩, 
              ⟨some 98, .load false 1 (.t 97), none⟩, 
              ⟨some 99, .move (.t 2), none⟩, 
              ⟨some 100, .bin .rem (.t 98) (.t 99), none⟩, 
              ⟨some 101, .bin .neq (.t 100) (.c (.int .i64 0)), none⟩] false)
          (.cond (.t 101)
            (.seq
              (.ops [⟨some 102, .build [.int .i64 0, .fsl 2 [], .bool false] [], none⟩, 
                  ⟨none, .store 3 (.t 6) (.t 102), none⟩, 
                  ⟨some 7, .move (.c (.int .i64 30)), none⟩] false)
              (.ret))
            (.skip))))
      (.ops [⟨some 91, .move (.t 13), none⟩, 
          ⟨some 92, .bin .add (.t 91) (.c (.int .i64 1)), none⟩, 
          ⟨some 13, .move (.t 92), none⟩] false))
def F60 : AF :=
  { ntmps := 108, results := [.cell 6 true 3, .tmp 7], pure := true, body :=
    .seq
      (.ops [⟨some 6, .alloc 51 [.int .i64 0, .fsl 2 [], .bool false], none⟩, 
          ⟨some 7, .move (.c (.int .i64 0)), none⟩] false)
      (.seq
        (.seq
          (.ops [⟨some 14, .move (.t 0), none⟩, 
              ⟨some 15, .len (.t 14), none⟩, 
              ⟨some 16, .move (.t 1), none⟩, 
              ⟨some 17, .len (.t 16), none⟩, 
              ⟨some 18, .bin .neq (.t 15) (.t 17), none⟩, 
              ⟨some 19, .move (.t 18), none⟩, 
              ⟨some 20, .move (.t 0), some (19, false)⟩, 
              ⟨some 21, .len (.t 20), some (19, false)⟩, 
              ⟨some 22, .bin .eql (.t 21) (.c (.int .i64 0)), some (19, false)⟩, 
              ⟨some 23, .pick (.t 19) (.c (.bool true)) (.t 22), none⟩, 
              ⟨some 24, .move (.t 23), none⟩, 
              ⟨some 25, .move (.t 2), some (24, false)⟩, 
              ⟨some 26, .bin .lss (.t 25) (.c (.int .i64 1)), some (24, false)⟩, 
              ⟨some 27, .pick (.t 24) (.c (.bool true)) (.t 26), none⟩] false)
          (.cond (.t 27)
            (.seq
              (.ops [⟨some 28, .build [.int .i64 0, .fsl 2 [], .bool false] [], none⟩, 
                  ⟨none, .store 3 (.t 6) (.t 28), none⟩, 
                  ⟨some 7, .move (.c (.int .i64 1)), none⟩] false)
              (.ret))
            (.skip)))
        (.seq
          (.ops [⟨some 8, .move (.c (.fsl 2 [])), none⟩] false)
          (.seq
            (.ops [⟨some 29, .move (.t 2), none⟩, 
                ⟨some 30, .bin .eql (.t 29) (.c (.int .i64 1)), none⟩, 
                ⟨some 9, .move (.t 30), none⟩] false)
            (.seq
              (.seq
                (.ops [⟨some 10, .move (.c (.int .i64 0)), none⟩] false)
                (.block 0
                  (.loop L60_0)))
              (.seq
                (.ops [⟨some 77, .move (.t 8), none⟩, 
                    ⟨some 78, .move (.t 1), none⟩, 
                    ⟨some 79, .call 72 [.t 77, .t 78], none⟩, 
                    ⟨some 76, .move (.t 79), none⟩, 
                    ⟨some 80, .extract (.t 76) 0, none⟩, 
                    ⟨some 81, .extract (.t 76) 1, none⟩, 
                    ⟨some 11, .alloc 26 [.int .i64 0, .fsl 2 []], none⟩, 
                    ⟨none, .store 2 (.t 11) (.t 80), none⟩, 
                    ⟨some 12, .move (.t 81), none⟩] false)
                (.seq
                  (.seq
                    (.ops [⟨some 82, .move (.t 12), none⟩, 
                        ⟨some 83, .bin .neq (.t 82) (.c (.int .i64 0)), none⟩] false)
                    (.cond (.t 83)
                      (.seq
                        (.ops [⟨some 84, .build [.int .i64 0, .fsl 2 [], .bool false] [], none⟩, 
                            ⟨some 85, .move (.t 12), none⟩, 
                            ⟨none, .store 3 (.t 6) (.t 84), none⟩, 
                            ⟨some 7, .move (.t 85), none⟩] false)
                        (.ret))
                      (.skip)))
                  (.seq
                    (.seq
                      (.ops [⟨some 13, .move (.c (.int .i64 0)), none⟩] false)
                      (.block 2
                        (.loop L60_1)))
                    (.seq
                      (.ops [⟨some 103, .load true 2 (.t 11), none⟩, 
                          ⟨some 104, .move (.t 2), none⟩, 
                          ⟨some 105, .call 73 [.t 103, .t 104], none⟩, 
                          ⟨some 106, .move (.t 9), none⟩, 
                          ⟨some 107, .build [.int .i64 0, .fsl 2 [], .bool false] [(0, 2, .t 105), (2, 1, .t 106)], none⟩, 
                          ⟨none, .store 3 (.t 6) (.t 107), none⟩, 
                          ⟨some 7, .move (.c (.int .i64 0)), none⟩] false)
                      (.ret))))))))) }

/- sequitur/sequiturref31.sub -/
def F61 : AF :=
  { ntmps := 34, results := [.cell 8 true 2], pure := true, body :=
    .seq
      (.ops [⟨some 5, .box 51 (.t 1), none⟩, 
          ⟨some 6, .box 29 (.t 2), none⟩, 
          ⟨some 8, .alloc 41 [.fsl 1 [], .int .i64 0], none⟩] false)
      (.seq
        (.opsV [⟨some 10, .buildSl 3 [.int .i64 0, .fsl 2 [], .bool false] 0 [], none⟩, 
            ⟨some 11, .move (.t 0), none⟩, 
            ⟨some 12, .append 51 3 40 (.t 10) (.t 11), none⟩, 
            ⟨some 13, .load true 3 (.t 5), none⟩, 
            ⟨some 14, .buildSl 3 [.int .i64 0, .fsl 2 [], .bool false] 1 [(0, .t 13)], none⟩, 
            ⟨some 15, .append 51 3 40 (.t 12) (.t 14), none⟩, 
            ⟨some 16, .fieldA 6 (.t 6), none⟩, 
            ⟨some 17, .load false 1 (.t 16), none⟩, 
            ⟨some 18, .move (.t 3), none⟩, 
            ⟨some 19, .idxV 7 (.t 17) (.t 18), none⟩, 
            ⟨some 20, .load true 7 (.t 19), none⟩, 
            ⟨some 21, .call 40 [.t 15, .t 20], none⟩, 
            ⟨some 9, .alloc 41 [.fsl 1 [], .int .i64 0], none⟩, 
            ⟨none, .store 2 (.t 9) (.t 21), none⟩])
        (.seq
          (.seq
            (.ops [⟨some 22, .fieldA 1 (.t 9), none⟩, 
                ⟨some 23, .load false 1 (.t 22), none⟩, 
                ⟨some 24, .bin .eql (.t 23) (.c (.int .i64 0)), none⟩] false)
            (.cond (.t 24)
              (.seq
                (.ops [⟨some 25, .build [.fsl 1 [], .int .i64 0] [], none⟩, 
                    ⟨none, .store 2 (.t 8) (.t 25), none⟩] false)
                (.ret))
              (.skip)))
          (.seq
            (.opsV [⟨some 26, .move (.t 3), none⟩, 
                ⟨some 27, .buildSl 1 [.int .i64 0] 1 [(0, .t 26)], none⟩, 
                ⟨some 28, .fieldA 0 (.t 9), none⟩, 
                ⟨some 29, .load false 1 (.t 28), none⟩, 
                ⟨some 30, .append 3 1 8 (.t 27) (.t 29), none⟩, 
                ⟨some 31, .fieldA 1 (.t 9), none⟩, 
                ⟨some 32, .load false 1 (.t 31), none⟩, 
                ⟨some 33, .build [.fsl 1 [], .int .i64 0] [(0, 1, .t 30), (1, 1, .t 32)], none⟩, 
                ⟨none, .store 2 (.t 8) (.t 33), none⟩])
            (.ret)))) }

/- sequitur/sequiturref28.Not -/
def F62 : AF :=
  { ntmps := 27, results := [.cell 2 true 3, .tmp 3], pure := true, body :=
    .seq
      (.ops [⟨some 1, .box 51 (.t 0), none⟩, 
          ⟨some 2, .alloc 51 [.int .i64 0, .fsl 2 [], .bool false], none⟩, 
          ⟨some 3, .move (.c (.int .i64 0)), none⟩] false)
      (.seq
        (.seq
          (.ops [⟨some 6, .fieldA 0 (.t 1), none⟩, 
              ⟨some 7, .load true 2 (.t 6), none⟩, 
              ⟨some 8, .call 39 [.t 7], none⟩, 
              ⟨some 9, .not (.t 8), none⟩, 
              ⟨some 10, .move (.t 9), none⟩, 
              ⟨some 11, .fieldA 2 (.t 1), some (10, false)⟩, 
              ⟨some 12, .load false 1 (.t 11), some (10, false)⟩, 
              ⟨some 13, .pick (.t 10) (.c (.bool true)) (.t 12), none⟩] false)
          (.cond (.t 13)
            (.seq
              (.ops [⟨some 14, .build [.int .i64 0, .fsl 2 [], .bool false] [], none⟩, 
                  ⟨none, .store 3 (.t 2) (.t 14), none⟩, 
                  ⟨some 3, .move (.c (.int .i64 1)), none⟩] false)
              (.ret))
            (.skip)))
        (.seq
          (.ops [⟨some 16, .fieldA 0 (.t 1), none⟩, 
              ⟨some 17, .load true 2 (.t 16), none⟩, 
              ⟨some 18, .build [.int .i64 0, .fsl 2 []] [(0, 1, .c (.int .i64 1))], none⟩, 
              ⟨some 19, .buildSl 2 [.int .i64 0, .fsl 2 []] 2 [(0, .t 17), (1, .t 18)], none⟩, 
              ⟨some 20, .buildSl 1 [.int .i64 0] 2 [(0, .c (.int .i64 (-1))), (1, .c (.int .i64 1))], none⟩, 
              ⟨some 21, .call 72 [.t 19, .t 20], none⟩, 
              ⟨some 15, .move (.t 21), none⟩, 
              ⟨some 22, .extract (.t 15) 0, none⟩, 
              ⟨some 23, .extract (.t 15) 1, none⟩, 
              ⟨some 4, .alloc 26 [.int .i64 0, .fsl 2 []], none⟩, 
              ⟨none, .store 2 (.t 4) (.t 22), none⟩, 
              ⟨some 5, .move (.t 23), none⟩] false)
          (.seq
            (.ops [⟨some 24, .load true 2 (.t 4), none⟩, 
                ⟨some 25, .build [.int .i64 0, .fsl 2 [], .bool false] [(0, 2, .t 24)], none⟩, 
                ⟨some 26, .move (.t 5), none⟩, 
                ⟨none, .store 3 (.t 2) (.t 25), none⟩, 
                ⟨some 3, .move (.t 26), none⟩] false)
            (.ret)))) }

/- sequitur/lin.Eval -/
def L63_0 : AC :=
  .seq
    (.ops [⟨some 22, .bin .lss (.t 21) (.t 20), none⟩] false)
    (.seq
      (.cond (.t 22)
        (.skip)
        (.exit 0))
      (.seq
        (.block 1
          (.seq
            (.ops [⟨some 23, .idxA 2 (.t 19) (.t 21), none⟩, 
                ⟨some 24, .load true 2 (.t 23), none⟩, 
                ⟨some 8, .alloc 62 [.int .i64 0, .int .i64 0], none⟩, 
                ⟨none, .store 2 (.t 8) (.t 24), none⟩] false)
            (.seq
              (.ops [⟨some 25, .fieldA 0 (.t 8), none⟩, 
                  ⟨some 26, .load false 1 (.t 25), none⟩, 
                  ⟨some 27, .move (.t 1), none⟩, 
                  ⟨some 28, .len (.t 27), none⟩, 
                  ⟨some 29, .bin .lss (.t 26) (.t 28), none⟩] false)
              (.cond (.t 29)
                (.ops [⟨some 30, .fieldA 1 (.t 8), none⟩, 
                    ⟨some 31, .load false 1 (.t 30), none⟩, 
                    ⟨some 32, .move (.t 1), none⟩, 
                    ⟨some 33, .fieldA 0 (.t 8), none⟩, 
                    ⟨some 34, .load false 1 (.t 33), none⟩, 
                    ⟨some 35, .idxA 1 (.t 32) (.t 34), none⟩, 
                    ⟨some 36, .load false 1 (.t 35), none⟩, 
                    ⟨some 37, .call 75 [.t 6, .t 31, .t 36], none⟩] true)
                (.skip)))))
        (.ops [⟨some 38, .bin .add (.t 21) (.c (.int .i64 1)), none⟩, 
            ⟨some 21, .move (.t 38), none⟩] false)))
def F63 : AF :=
  { ntmps := 46, results := [.tmp 4, .tmp 5], pure := true, body :=
    .seq
      (.ops [⟨some 2, .box 26 (.t 0), none⟩, 
          ⟨some 4, .move (.c (.int .i64 0)), none⟩, 
          ⟨some 5, .move (.c (.int .i64 0)), none⟩] false)
      (.seq
        (.seq
          (.ops [⟨some 11, .load true 2 (.t 2), none⟩, 
              ⟨some 12, .buildSl 2 [.int .i64 0, .fsl 2 []] 1 [(0, .t 11)], none⟩, 
              ⟨some 13, .call 74 [.t 12], none⟩, 
              ⟨some 14, .not (.t 13), none⟩] false)
          (.cond (.t 14)
            (.seq
              (.ops [⟨some 4, .move (.c (.int .i64 0)), none⟩, 
                  ⟨some 5, .move (.c (.int .i64 1)), none⟩] false)
              (.ret))
            (.skip)))
        (.seq
          (.ops [⟨some 6, .alloc 108 [.int .u64 0, .int .u64 0, .int .u64 0], none⟩] false)
          (.seq
            (.ops [⟨some 15, .fieldA 0 (.t 2), none⟩, 
                ⟨some 16, .load false 1 (.t 15), none⟩, 
                ⟨some 17, .call 75 [.t 6, .t 16, .c (.int .i64 1)], none⟩] false)
            (.seq
              (.seq
                (.ops [⟨some 18, .fieldA 1 (.t 2), none⟩, 
                    ⟨some 19, .load false 1 (.t 18), none⟩, 
                    ⟨some 20, .len (.t 19), none⟩, 
                    ⟨some 21, .move (.c (.int .i64 0)), none⟩] false)
                (.block 0
                  (.loop L63_0)))
              (.seq
                (.ops [⟨some 40, .call 76 [.t 6], none⟩, 
                    ⟨some 39, .move (.t 40), none⟩, 
                    ⟨some 41, .extract (.t 39) 0, none⟩, 
                    ⟨some 42, .extract (.t 39) 1, none⟩, 
                    ⟨some 9, .move (.t 41), none⟩, 
                    ⟨some 10, .move (.t 42), none⟩] false)
                (.seq
                  (.seq
                    (.ops [⟨some 43, .move (.t 10), none⟩, 
                        ⟨some 44, .not (.t 43), none⟩] false)
                    (.cond (.t 44)
                      (.seq
                        (.ops [⟨some 4, .move (.c (.int .i64 0)), none⟩, 
                            ⟨some 5, .move (.c (.int .i64 5)), none⟩] false)
                        (.ret))
                      (.skip)))
                  (.seq
                    (.ops [⟨some 45, .move (.t 9), none⟩, 
                        ⟨some 4, .move (.t 45), none⟩, 
                        ⟨some 5, .move (.c (.int .i64 0)), none⟩] false)
                    (.ret)))))))) }

/- sequitur/sequiturbase.Monos -/
def L64_0 : AC :=
  .seq
    (.seq
      (.ops [⟨some 11, .move (.t 5), none⟩, 
          ⟨some 12, .move (.t 0), none⟩, 
          ⟨some 13, .len (.t 12), none⟩, 
          ⟨some 14, .bin .lss (.t 11) (.t 13), none⟩] false)
      (.cond (.t 14)
        (.skip)
        (.exit 0)))
    (.seq
      (.block 1
        (.seq
          (.ops [⟨some 17, .move (.t 0), none⟩, 
              ⟨some 18, .move (.t 5), none⟩, 
              ⟨some 19, .idxA 2 (.t 17) (.t 18), none⟩, 
              ⟨some 20, .load true 2 (.t 19), none⟩, 
              ⟨some 21, .move (.t 1), none⟩, 
              ⟨some 22, .move (.t 5), none⟩, 
              ⟨some 23, .idxA 2 (.t 21) (.t 22), none⟩, 
              ⟨some 24, .load true 2 (.t 23), none⟩, 
              ⟨some 25, .aeq [2, 2] true (.t 20) (.t 24), none⟩] true)
          (.cond (.t 25)
            (.seq
              (.ops [⟨some 4, .move (.c (.bool false)), none⟩] false)
              (.ret))
            (.skip))))
      (.ops [⟨some 15, .move (.t 5), none⟩, 
          ⟨some 16, .bin .add (.t 15) (.c (.int .i64 1)), none⟩, 
          ⟨some 5, .move (.t 16), none⟩] false))
def F64 : AF :=
  { ntmps := 26, results := [.tmp 4], pure := true, body :=
    .seq
      (.ops [⟨some 4, .move (.c (.bool false)), none⟩] false)
      (.seq
        (.seq
          (.ops [⟨some 6, .move (.t 0), none⟩, 
              ⟨some 7, .len (.t 6), none⟩, 
              ⟨some 8, .move (.t 1), none⟩, 
              ⟨some 9, .len (.t 8), none⟩, 
              ⟨some 10, .bin .neq (.t 7) (.t 9), none⟩] false)
          (.cond (.t 10)
            (.seq
              (.ops [⟨some 4, .move (.c (.bool false)), none⟩] false)
              (.ret))
            (.skip)))
        (.seq
          (.seq
            (.ops [⟨some 5, .move (.c (.int .i64 0)), none⟩] false)
            (.block 0
              (.loop L64_0)))
          (.seq
            (.ops [⟨some 4, .move (.c (.bool true)), none⟩] false)
            (.ret)))) }

/- (sequitur/cuts.facts).some -/
def L67_0 : AC :=
  .seq
    (.ops [⟨some 12, .bin .lss (.t 11) (.t 10), none⟩] false)
    (.seq
      (.cond (.t 12)
        (.skip)
        (.exit 0))
      (.seq
        (.block 1
          (.seq
            (.ops [⟨some 13, .idxA 1 (.t 9) (.t 11), none⟩, 
                ⟨some 14, .load false 1 (.t 13), none⟩, 
                ⟨some 8, .move (.t 14), none⟩] false)
            (.seq
              (.seq
                (.ops [⟨some 15, .move (.t 8), none⟩, 
                    ⟨some 16, .bin .lss (.t 15) (.c (.int .i64 0)), none⟩, 
                    ⟨some 17, .move (.t 16), none⟩, 
                    ⟨some 18, .move (.t 8), some (17, false)⟩, 
                    ⟨some 19, .move (.t 0), some (17, false)⟩, 
                    ⟨some 20, .len (.t 19), some (17, false)⟩, 
                    ⟨some 21, .bin .geq (.t 18) (.t 20), some (17, false)⟩, 
                    ⟨some 22, .pick (.t 17) (.c (.bool true)) (.t 21), none⟩] false)
                (.cond (.t 22)
                  (.seq
                    (.ops [⟨some 4, .move (.c (.fsl 3 [])), none⟩, 
                        ⟨some 5, .move (.c (.int .i64 3)), none⟩] false)
                    (.ret))
                  (.skip)))
              (.ops [⟨some 23, .move (.t 6), none⟩, 
                  ⟨some 24, .move (.t 0), none⟩, 
                  ⟨some 25, .move (.t 8), none⟩, 
                  ⟨some 26, .idxA 3 (.t 24) (.t 25), none⟩, 
                  ⟨some 27, .load true 3 (.t 26), none⟩, 
                  ⟨some 28, .buildSl 3 [.int .i64 0, .fsl 2 [], .bool false] 1 [(0, .t 27)], none⟩, 
                  ⟨some 29, .append 51 3 40 (.t 23) (.t 28), none⟩, 
                  ⟨some 6, .move (.t 29), none⟩] false))))
        (.ops [⟨some 30, .bin .add (.t 11) (.c (.int .i64 1)), none⟩, 
            ⟨some 11, .move (.t 30), none⟩] false)))
def F67 : AF :=
  { ntmps := 32, results := [.tmp 4, .tmp 5], pure := true, body :=
    .seq
      (.ops [⟨some 4, .move (.c (.fsl 3 [])), none⟩, 
          ⟨some 5, .move (.c (.int .i64 0)), none⟩] false)
      (.seq
        (.ops [⟨some 6, .move (.c (.fsl 3 [])), none⟩] false)
        (.seq
          (.seq
            (.ops [⟨some 9, .move (.t 1), none⟩, 
                ⟨some 10, .len (.t 9), none⟩, 
                ⟨some 11, .move (.c (.int .i64 0)), none⟩] false)
            (.block 0
              (.loop L67_0)))
          (.seq
            (.ops [⟨some 31, .move (.t 6), none⟩, 
                ⟨some 4, .move (.t 31), none⟩, 
                ⟨some 5, .move (.c (.int .i64 0)), none⟩] false)
            (.ret)))) }

/- sequitur/ineq.Absurd -/
def F68 : AF :=
  { ntmps := 21, results := [.tmp 2], pure := true, body :=
    .seq
      (.ops [⟨some 1, .box 51 (.t 0), none⟩, 
          ⟨some 2, .move (.c (.bool false)), none⟩] false)
      (.seq
        (.ops [⟨some 3, .load true 3 (.t 1), none⟩, 
            ⟨some 4, .call 88 [.t 3], none⟩, 
            ⟨some 5, .move (.t 4), none⟩, 
            ⟨some 6, .fieldA 0 (.t 1), some (5, true)⟩, 
            ⟨some 7, .fieldA 0 (.t 6), some (5, true)⟩, 
            ⟨some 8, .load false 1 (.t 7), some (5, true)⟩, 
            ⟨some 9, .bin .gtr (.t 8) (.c (.int .i64 0)), some (5, true)⟩, 
            ⟨some 10, .move (.t 9), some (5, true)⟩, 
            ⟨some 11, .fieldA 2 (.t 1), some (10, false)⟩, 
            ⟨some 12, .load false 1 (.t 11), some (10, false)⟩, 
            ⟨some 13, .move (.t 12), some (10, false)⟩, 
            ⟨some 14, .fieldA 0 (.t 1), some (13, true)⟩, 
            ⟨some 15, .fieldA 0 (.t 14), some (13, true)⟩, 
            ⟨some 16, .load false 1 (.t 15), some (13, true)⟩, 
            ⟨some 17, .bin .neq (.t 16) (.c (.int .i64 0)), some (13, true)⟩, 
            ⟨some 18, .pick (.t 13) (.t 17) (.c (.bool false)), some (10, false)⟩, 
            ⟨some 19, .pick (.t 10) (.c (.bool true)) (.t 18), some (5, true)⟩, 
            ⟨some 20, .pick (.t 5) (.t 19) (.c (.bool false)), none⟩, 
            ⟨some 2, .move (.t 20), none⟩] false)
        (.ret)) }

/- sequitur/ineq.Sum -/
def L69_0 : AC :=
  .seq
    (.ops [⟨some 37, .bin .lss (.t 36) (.t 35), none⟩] false)
    (.seq
      (.cond (.t 37)
        (.skip)
        (.exit 0))
      (.seq
        (.block 1
          (.seq
            (.ops [⟨some 38, .move (.t 36), none⟩, 
                ⟨some 39, .idxA 3 (.t 34) (.t 36), none⟩, 
                ⟨some 40, .load true 3 (.t 39), none⟩, 
                ⟨some 11, .alloc 51 [.int .i64 0, .fsl 2 [], .bool false], none⟩, 
                ⟨some 10, .move (.t 38), none⟩, 
                ⟨none, .store 3 (.t 11) (.t 40), none⟩] false)
            (.seq
              (.seq
                (.ops [⟨some 41, .load true 3 (.t 11), none⟩, 
                    ⟨some 42, .call 24 [.t 41], none⟩, 
                    ⟨some 43, .bin .neq (.t 42) (.c (.int .i64 0)), none⟩, 
                    ⟨some 44, .move (.t 43), none⟩, 
                    ⟨some 45, .move (.t 1), some (44, false)⟩, 
                    ⟨some 46, .move (.t 10), some (44, false)⟩, 
                    ⟨some 47, .idxA 1 (.t 45) (.t 46), some (44, false)⟩, 
                    ⟨some 48, .load false 1 (.t 47), some (44, false)⟩, 
                    ⟨some 49, .bin .lss (.t 48) (.c (.int .i64 0)), some (44, false)⟩, 
                    ⟨some 50, .move (.t 49), some (44, false)⟩, 
                    ⟨some 51, .fieldA 2 (.t 11), some (50, true)⟩, 
                    ⟨some 52, .load false 1 (.t 51), some (50, true)⟩, 
                    ⟨some 53, .not (.t 52), some (50, true)⟩, 
                    ⟨some 54, .pick (.t 50) (.t 53) (.c (.bool false)), some (44, false)⟩, 
                    ⟨some 55, .pick (.t 44) (.c (.bool true)) (.t 54), none⟩] false)
                (.cond (.t 55)
                  (.seq
                    (.ops [⟨some 56, .build [.int .i64 0, .fsl 2 [], .bool false] [], none⟩, 
                        ⟨none, .store 3 (.t 6) (.t 56), none⟩, 
                        ⟨some 7, .move (.c (.int .i64 1)), none⟩] false)
                    (.ret))
                  (.skip)))
              (.seq
                (.ops [⟨some 57, .move (.t 9), none⟩, 
                    ⟨some 58, .move (.t 57), none⟩, 
                    ⟨some 59, .fieldA 2 (.t 11), some (58, true)⟩, 
                    ⟨some 60, .load false 1 (.t 59), some (58, true)⟩, 
                    ⟨some 61, .pick (.t 58) (.t 60) (.c (.bool false)), none⟩, 
                    ⟨some 9, .move (.t 61), none⟩] false)
                (.ops [⟨some 62, .move (.t 8), none⟩, 
                    ⟨some 63, .fieldA 0 (.t 11), none⟩, 
                    ⟨some 64, .load true 2 (.t 63), none⟩, 
                    ⟨some 65, .buildSl 2 [.int .i64 0, .fsl 2 []] 1 [(0, .t 64)], none⟩, 
                    ⟨some 66, .append 26 2 32 (.t 62) (.t 65), none⟩, 
                    ⟨some 8, .move (.t 66), none⟩] false)))))
        (.ops [⟨some 67, .bin .add (.t 36) (.c (.int .i64 1)), none⟩, 
            ⟨some 36, .move (.t 67), none⟩] false)))

def L69_1 : AC :=
  .seq
    (.ops [⟨some 82, .bin .lss (.t 81) (.t 80), none⟩] false)
    (.seq
      (.cond (.t 82)
        (.skip)
        (.exit 2))
      (.seq
        (.block 3
          (.seq
            (.ops [⟨some 83, .idxA 2 (.t 79) (.t 81), none⟩, 
                ⟨some 84, .load true 2 (.t 83), none⟩, 
                ⟨some 16, .alloc 62 [.int .i64 0, .int .i64 0], none⟩, 
                ⟨none, .store 2 (.t 16) (.t 84), none⟩] false)
            (.ops [⟨some 85, .move (.t 14), none⟩, 
                ⟨some 86, .fieldA 1 (.t 16), none⟩, 
                ⟨some 87, .load false 1 (.t 86), none⟩, 
                ⟨some 88, .buildSl 1 [.int .i64 0] 1 [(0, .t 87)], none⟩, 
                ⟨some 89, .append 2 1 8 (.t 85) (.t 88), none⟩, 
                ⟨some 14, .move (.t 89), none⟩] false)))
        (.ops [⟨some 90, .bin .add (.t 81) (.c (.int .i64 1)), none⟩, 
            ⟨some 81, .move (.t 90), none⟩] false)))
def F69 : AF :=
  { ntmps := 101, results := [.cell 6 true 3, .tmp 7], pure := true, body :=
    .seq
      (.ops [⟨some 5, .box 2 (.t 2), none⟩, 
          ⟨some 6, .alloc 51 [.int .i64 0, .fsl 2 [], .bool false], none⟩, 
          ⟨some 7, .move (.c (.int .i64 0)), none⟩] false)
      (.seq
        (.seq
          (.ops [⟨some 17, .move (.t 0), none⟩, 
              ⟨some 18, .len (.t 17), none⟩, 
              ⟨some 19, .bin .eql (.t 18) (.c (.int .i64 0)), none⟩, 
              ⟨some 20, .move (.t 19), none⟩, 
              ⟨some 21, .move (.t 0), some (20, false)⟩, 
              ⟨some 22, .len (.t 21), some (20, false)⟩, 
              ⟨some 23, .move (.t 1), some (20, false)⟩, 
              ⟨some 24, .len (.t 23), some (20, false)⟩, 
              ⟨some 25, .bin .neq (.t 22) (.t 24), some (20, false)⟩, 
              ⟨some 26, .pick (.t 20) (.c (.bool true)) (.t 25), none⟩, 
              ⟨some 27, .move (.t 26), none⟩, 
              ⟨some 28, .load false 1 (.t 5), some (27, false)⟩, 
              ⟨some 29, .bin .lss (.t 28) (.c (.int .i64 1)), some (27, false)⟩, 
              ⟨some 30, .pick (.t 27) (.c (.bool true)) (.t 29), none⟩] false)
          (.cond (.t 30)
            (.seq
              (.ops [⟨some 31, .build [.int .i64 0, .fsl 2 [], .bool false] [], none⟩, 
                  ⟨none, .store 3 (.t 6) (.t 31), none⟩, 
                  ⟨some 7, .move (.c (.int .i64 1)), none⟩] false)
              (.ret))
            (.skip)))
        (.seq
          (.ops [⟨some 8, .move (.c (.fsl 2 [])), none⟩] false)
          (.seq
            (.ops [⟨some 32, .load false 1 (.t 5), none⟩, 
                ⟨some 33, .bin .eql (.t 32) (.c (.int .i64 1)), none⟩, 
                ⟨some 9, .move (.t 33), none⟩] false)
            (.seq
              (.seq
                (.ops [⟨some 34, .move (.t 0), none⟩, 
                    ⟨some 35, .len (.t 34), none⟩, 
                    ⟨some 36, .move (.c (.int .i64 0)), none⟩] false)
                (.block 0
                  (.loop L69_0)))
              (.seq
                (.ops [⟨some 69, .move (.t 8), none⟩, 
                    ⟨some 70, .move (.t 1), none⟩, 
                    ⟨some 71, .call 89 [.t 69, .t 70], none⟩, 
                    ⟨some 68, .move (.t 71), none⟩, 
                    ⟨some 72, .extract (.t 68) 0, none⟩, 
                    ⟨some 73, .extract (.t 68) 1, none⟩, 
                    ⟨some 12, .alloc 26 [.int .i64 0, .fsl 2 []], none⟩, 
                    ⟨none, .store 2 (.t 12) (.t 72), none⟩, 
                    ⟨some 13, .move (.t 73), none⟩] false)
                (.seq
                  (.seq
                    (.ops [⟨some 74, .move (.t 13), none⟩, 
                        ⟨some 75, .bin .neq (.t 74) (.c (.int .i64 0)), none⟩] false)
                    (.cond (.t 75)
                      (.seq
                        (.ops [⟨some 76, .build [.int .i64 0, .fsl 2 [], .bool false] [], none⟩, 
                            ⟨some 77, .move (.t 13), none⟩, 
                            ⟨none, .store 3 (.t 6) (.t 76), none⟩, 
                            ⟨some 7, .move (.t 77), none⟩] false)
                        (.ret))
                      (.skip)))
                  (.seq
                    (.ops [⟨some 14, .move (.c (.fsl 1 [])), none⟩] false)
                    (.seq
                      (.seq
                        (.ops [⟨some 78, .fieldA 1 (.t 12), none⟩, 
                            ⟨some 79, .load false 1 (.t 78), none⟩, 
                            ⟨some 80, .len (.t 79), none⟩, 
                            ⟨some 81, .move (.c (.int .i64 0)), none⟩] false)
                        (.block 2
                          (.loop L69_1)))
                      (.seq
                        (.seq
                          (.ops [⟨some 91, .mkfn (.func 91) [] [.t 5], none⟩, 
                              ⟨some 92, .move (.t 14), none⟩, 
                              ⟨some 93, .call 90 [.t 91, .t 92], none⟩, 
                              ⟨some 94, .not (.t 93), none⟩] false)
                          (.cond (.t 94)
                            (.seq
                              (.ops [⟨some 95, .build [.int .i64 0, .fsl 2 [], .bool false] [], none⟩, 
                                  ⟨none, .store 3 (.t 6) (.t 95), none⟩, 
                                  ⟨some 7, .move (.c (.int .i64 30)), none⟩] false)
                              (.ret))
                            (.skip)))
                        (.seq
                          (.ops [⟨some 96, .load true 2 (.t 12), none⟩, 
                              ⟨some 97, .load false 1 (.t 5), none⟩, 
                              ⟨some 98, .call 92 [.t 96, .t 97], none⟩, 
                              ⟨some 99, .move (.t 9), none⟩, 
                              ⟨some 100, .build [.int .i64 0, .fsl 2 [], .bool false] [(0, 2, .t 98), (2, 1, .t 99)], none⟩, 
                              ⟨none, .store 3 (.t 6) (.t 100), none⟩, 
                              ⟨some 7, .move (.c (.int .i64 0)), none⟩] false)
                          (.ret))))))))))) }

/- (sequitur/cuts.facts).full -/
def F70 : AF :=
  { ntmps := 6, results := [.tmp 2], pure := true, body :=
    .seq
      (.ops [⟨some 2, .move (.c (.int .i64 0)), none⟩] false)
      (.seq
        (.seq
          (.ops [⟨some 3, .move (.t 0), none⟩, 
              ⟨some 4, .len (.t 3), none⟩, 
              ⟨some 5, .bin .geq (.t 4) (.c (.int .i64 1024)), none⟩] false)
          (.cond (.t 5)
            (.seq
              (.ops [⟨some 2, .move (.c (.int .i64 2)), none⟩] false)
              (.ret))
            (.skip)))
        (.seq
          (.ops [⟨some 2, .move (.c (.int .i64 0)), none⟩] false)
          (.ret))) }

/- sequitur/ineq.Not -/
def F71 : AF :=
  { ntmps := 36, results := [.cell 2 true 3, .tmp 3], pure := true, body :=
    .seq
      (.ops [⟨some 1, .box 51 (.t 0), none⟩, 
          ⟨some 2, .alloc 51 [.int .i64 0, .fsl 2 [], .bool false], none⟩, 
          ⟨some 3, .move (.c (.int .i64 0)), none⟩] false)
      (.seq
        (.seq
          (.ops [⟨some 6, .load true 3 (.t 1), none⟩, 
              ⟨some 7, .call 24 [.t 6], none⟩, 
              ⟨some 8, .bin .neq (.t 7) (.c (.int .i64 0)), none⟩, 
              ⟨some 9, .move (.t 8), none⟩, 
              ⟨some 10, .fieldA 2 (.t 1), some (9, false)⟩, 
              ⟨some 11, .load false 1 (.t 10), some (9, false)⟩, 
              ⟨some 12, .pick (.t 9) (.c (.bool true)) (.t 11), none⟩] false)
          (.cond (.t 12)
            (.seq
              (.ops [⟨some 13, .build [.int .i64 0, .fsl 2 [], .bool false] [], none⟩, 
                  ⟨none, .store 3 (.t 2) (.t 13), none⟩, 
                  ⟨some 3, .move (.c (.int .i64 1)), none⟩] false)
              (.ret))
            (.skip)))
        (.seq
          (.ops [⟨some 15, .fieldA 0 (.t 1), none⟩, 
              ⟨some 16, .load true 2 (.t 15), none⟩, 
              ⟨some 17, .call 93 [.t 16, .c (.int .i64 (-1))], none⟩, 
              ⟨some 14, .move (.t 17), none⟩, 
              ⟨some 18, .extract (.t 14) 0, none⟩, 
              ⟨some 19, .extract (.t 14) 1, none⟩, 
              ⟨some 4, .alloc 26 [.int .i64 0, .fsl 2 []], none⟩, 
              ⟨none, .store 2 (.t 4) (.t 18), none⟩, 
              ⟨some 5, .move (.t 19), none⟩] false)
          (.seq
            (.seq
              (.ops [⟨some 20, .move (.t 5), none⟩, 
                  ⟨some 21, .bin .neq (.t 20) (.c (.int .i64 0)), none⟩] false)
              (.cond (.t 21)
                (.seq
                  (.ops [⟨some 22, .build [.int .i64 0, .fsl 2 [], .bool false] [], none⟩, 
                      ⟨some 23, .move (.t 5), none⟩, 
                      ⟨none, .store 3 (.t 2) (.t 22), none⟩, 
                      ⟨some 3, .move (.t 23), none⟩] false)
                  (.ret))
                (.skip)))
            (.seq
              (.ops [⟨some 25, .load true 2 (.t 4), none⟩, 
                  ⟨some 26, .build [.int .i64 0, .fsl 2 []] [(0, 1, .c (.int .i64 1))], none⟩, 
                  ⟨some 27, .call 94 [.t 25, .t 26], none⟩, 
                  ⟨some 24, .move (.t 27), none⟩, 
                  ⟨some 28, .extract (.t 24) 0, none⟩, 
                  ⟨some 29, .extract (.t 24) 1, none⟩, 
                  ⟨none, .store 2 (.t 4) (.t 28), none⟩, 
                  ⟨some 5, .move (.t 29), none⟩] false)
              (.seq
                (.seq
                  (.ops [⟨some 30, .move (.t 5), none⟩, 
                      ⟨some 31, .bin .neq (.t 30) (.c (.int .i64 0)), none⟩] false)
                  (.cond (.t 31)
                    (.seq
                      (.ops [⟨some 32, .build [.int .i64 0, .fsl 2 [], .bool false] [], none⟩, 
                          ⟨some 33, .move (.t 5), none⟩, 
                          ⟨none, .store 3 (.t 2) (.t 32), none⟩, 
                          ⟨some 3, .move (.t 33), none⟩] false)
                      (.ret))
                    (.skip)))
                (.seq
                  (.ops [⟨some 34, .load true 2 (.t 4), none⟩, 
                      ⟨some 35, .build [.int .i64 0, .fsl 2 [], .bool false] [(0, 2, .t 34)], none⟩, 
                      ⟨none, .store 3 (.t 2) (.t 35), none⟩, 
                      ⟨some 3, .move (.c (.int .i64 0)), none⟩] false)
                  (.ret))))))) }

/- sequitur/sequiturref28.Lin -/
def L72_0 : AC :=
  .seq
    (.seq
      (.ops [⟨some 17, .move (.t 7), none⟩, 
          ⟨some 18, .move (.t 0), none⟩, 
          ⟨some 19, .len (.t 18), none⟩, 
          ⟨some 20, .bin .lss (.t 17) (.t 19), none⟩] false)
      (.cond (.t 20)
        (.skip)
        (.exit 0)))
    (.seq
      (.block 1
        (.ops [⟨some 23, .load true 3 (.t 6), none⟩, 
            ⟨some 24, .move (.t 0), none⟩, 
            ⟨some 25, .move (.t 7), none⟩, 
            ⟨some 26, .idxA 2 (.t 24) (.t 25), none⟩, 
            ⟨some 27, .fieldA 0 (.t 26), none⟩, 
            ⟨some 28, .load false 1 (.t 27), none⟩, 
            ⟨some 29, .move (.t 1), none⟩, 
            ⟨some 30, .move (.t 7), none⟩, 
            ⟨some 31, .idxA 1 (.t 29) (.t 30), none⟩, 
            ⟨some 32, .load false 1 (.t 31), none⟩, 
            ⟨some 33, .call 95 [.t 23, .t 28, .t 32], none⟩, 
            ⟨none, .store 3 (.t 6) (.t 33), none⟩] true))
      (.ops [⟨some 21, .move (.t 7), none⟩, 
          ⟨some 22, .bin .add (.t 21) (.c (.int .i64 1)), none⟩, 
          ⟨some 7, .move (.t 22), none⟩] false))

def L72_2 : AC :=
  .seq
    (.seq
      (.ops [⟨some 46, .move (.t 13), none⟩, 
          ⟨some 47, .move (.t 0), none⟩, 
          ⟨some 48, .len (.t 47), none⟩, 
          ⟨some 49, .bin .lss (.t 46) (.t 48), none⟩] false)
      (.cond (.t 49)
        (.skip)
        (.exit 4)))
    (.seq
      (.block 5
        (.ops [⟨some 52, .load true 3 (.t 12), none⟩, 
            ⟨some 53, .move (.t 0), none⟩, 
            ⟨some 54, .move (.t 13), none⟩, 
            ⟨some 55, .idxA 2 (.t 53) (.t 54), none⟩, 
            ⟨some 56, .load true 2 (.t 55), none⟩, 
            ⟨some 57, .move (.t 11), none⟩, 
            ⟨some 58, .call 97 [.t 56, .t 57], none⟩, 
            ⟨some 59, .move (.t 1), none⟩, 
            ⟨some 60, .move (.t 13), none⟩, 
            ⟨some 61, .idxA 1 (.t 59) (.t 60), none⟩, 
            ⟨some 62, .load false 1 (.t 61), none⟩, 
            ⟨some 63, .call 95 [.t 52, .t 58, .t 62], none⟩, 
            ⟨none, .store 3 (.t 12) (.t 63), none⟩] true))
      (.ops [⟨some 50, .move (.t 13), none⟩, 
          ⟨some 51, .bin .add (.t 50) (.c (.int .i64 1)), none⟩, 
          ⟨some 13, .move (.t 51), none⟩] false))

def L72_1 : AC :=
  .seq
    (.seq
      (.ops [⟨some 41, .move (.t 11), none⟩, 
          ⟨some 42, .bin .lss (.t 41) (.c (.int .i64 64)), none⟩] false)
      (.cond (.t 42)
        (.skip)
        (.exit 2)))
    (.seq
      (.block 3
        (.seq
          (.ops [⟨some 45, .build [.int .i64 0, .int .u64 0, .int .u64 0] [], none⟩, 
              ⟨some 12, .alloc 130 [.int .i64 0, .int .u64 0, .int .u64 0], none⟩, 
              ⟨none, .store 3 (.t 12) (.t 45), none⟩] false)
          (.seq
            (.seq
              (.ops [⟨some 13, .move (.c (.int .i64 0)), none⟩] false)
              (.block 4
                (.loop L72_2)))
            (.seq
              (.ops [⟨some 65, .load true 3 (.t 12), none⟩, 
                  ⟨some 66, .call 96 [.t 65], none⟩, 
                  ⟨some 64, .move (.t 66), none⟩, 
                  ⟨some 67, .extract (.t 64) 0, none⟩, 
                  ⟨some 68, .extract (.t 64) 1, none⟩, 
                  ⟨some 14, .move (.t 67), none⟩, 
                  ⟨some 15, .move (.t 68), none⟩] false)
              (.seq
                (.ops [⟨some 69, .move (.t 9), none⟩, 
                    ⟨some 70, .move (.t 69), none⟩, 
                    ⟨some 71, .move (.t 15), some (70, true)⟩, 
                    ⟨some 72, .pick (.t 70) (.t 71) (.c (.bool false)), none⟩, 
                    ⟨some 9, .move (.t 72), none⟩] false)
                (.seq
                  (.ops [⟨some 73, .move (.t 14), none⟩, 
                      ⟨some 74, .bin .neq (.t 73) (.c (.int .i64 0)), none⟩] false)
                  (.cond (.t 74)
                    (.ops [⟨some 75, .fieldA 1 (.t 10), none⟩, 
                        ⟨some 76, .load false 1 (.t 75), none⟩, 
                        ⟨some 77, .move (.t 11), none⟩, 
                        ⟨some 78, .move (.t 14), none⟩, 
                        ⟨some 79, .build [.int .i64 0, .int .i64 0] [(0, 1, .t 77), (1, 1, .t 78)], none⟩, 
                        ⟨some 80, .buildSl 2 [.int .i64 0, .int .i64 0] 1 [(0, .t 79)], none⟩, 
                        ⟨some 81, .append 62 2 16 (.t 76) (.t 80), none⟩, 
                        ⟨some 82, .fieldA 1 (.t 10), none⟩, 
                        ⟨none, .store 1 (.t 82) (.t 81), none⟩] false)
                    (.skip))))))))
      (.ops [⟨some 43, .move (.t 11), none⟩, 
          ⟨some 44, .bin .add (.t 43) (.c (.int .i64 1)), none⟩, 
          ⟨some 11, .move (.t 44), none⟩] false))
def F72 : AF :=
  { ntmps := 87, results := [.cell 4 true 2, .tmp 5], pure := true, body :=
    .seq
      (.ops [⟨some 4, .alloc 26 [.int .i64 0, .fsl 2 []], none⟩, 
          ⟨some 5, .move (.c (.int .i64 0)), none⟩] false)
      (.seq
        (.ops [⟨some 16, .build [.int .i64 0, .int .u64 0, .int .u64 0] [], none⟩, 
            ⟨some 6, .alloc 130 [.int .i64 0, .int .u64 0, .int .u64 0], none⟩, 
            ⟨none, .store 3 (.t 6) (.t 16), none⟩] false)
        (.seq
          (.seq
            (.ops [⟨some 7, .move (.c (.int .i64 0)), none⟩] false)
            (.block 0
              (.loop L72_0)))
          (.seq
            (.ops [⟨some 35, .load true 3 (.t 6), none⟩, 
                ⟨some 36, .call 96 [.t 35], none⟩, 
                ⟨some 34, .move (.t 36), none⟩, 
                ⟨some 37, .extract (.t 34) 0, none⟩, 
                ⟨some 38, .extract (.t 34) 1, none⟩, 
                ⟨some 8, .move (.t 37), none⟩, 
                ⟨some 9, .move (.t 38), none⟩] false)
            (.seq
              (.ops [⟨some 39, .move (.t 8), none⟩, 
                  ⟨some 40, .build [.int .i64 0, .fsl 2 []] [(0, 1, .t 39)], none⟩, 
                  ⟨some 10, .alloc 26 [.int .i64 0, .fsl 2 []], none⟩, 
                  ⟨none, .store 2 (.t 10) (.t 40), none⟩] false)
              (.seq
                (.seq
                  (.ops [⟨some 11, .move (.c (.int .i64 0)), none⟩] false)
                  (.block 2
                    (.loop L72_1)))
                (.seq
                  (.seq
                    (.ops [⟨some 83, .move (.t 9), none⟩, 
                        ⟨some 84, .not (.t 83), none⟩] false)
                    (.cond (.t 84)
                      (.seq
                        (.ops [⟨some 85, .build [.int .i64 0, .fsl 2 []] [], none⟩, 
                            ⟨none, .store 2 (.t 4) (.t 85), none⟩, 
                            ⟨some 5, .move (.c (.int .i64 5)), none⟩] false)
                        (.ret))
                      (.skip)))
                  (.seq
                    (.ops [⟨some 86, .load true 2 (.t 10), none⟩, 
                        ⟨none, .store 2 (.t 4) (.t 86), none⟩, 
                        ⟨some 5, .move (.c (.int .i64 0)), none⟩] false)
                    (.ret)))))))) }

/- sequitur/sequiturref28.by -/
def L73_0 : AC :=
  .seq
    (.seq
      (.ops [⟨some 16, .move (.t 6), none⟩, 
          ⟨some 17, .fieldA 1 (.t 2), none⟩, 
          ⟨some 18, .load false 1 (.t 17), none⟩, 
          ⟨some 19, .len (.t 18), none⟩, 
          ⟨some 20, .bin .lss (.t 16) (.t 19), none⟩] false)
      (.cond (.t 20)
        (.skip)
        (.exit 0)))
    (.seq
      (.block 1
        (.ops [⟨some 23, .fieldA 1 (.t 5), none⟩, 
            ⟨some 24, .load false 1 (.t 23), none⟩, 
            ⟨some 25, .fieldA 1 (.t 2), none⟩, 
            ⟨some 26, .load false 1 (.t 25), none⟩, 
            ⟨some 27, .move (.t 6), none⟩, 
            ⟨some 28, .idxA 2 (.t 26) (.t 27), none⟩, 
            ⟨some 29, .fieldA 0 (.t 28), none⟩, 
            ⟨some 30, .load false 1 (.t 29), none⟩, 
            ⟨some 31, .fieldA 1 (.t 2), none⟩, 
            ⟨some 32, .load false 1 (.t 31), none⟩, 
            ⟨some 33, .move (.t 6), none⟩, 
            ⟨some 34, .idxA 2 (.t 32) (.t 33), none⟩, 
            ⟨some 35, .fieldA 1 (.t 34), none⟩, 
            ⟨some 36, .load false 1 (.t 35), none⟩, 
            ⟨some 37, .move (.t 1), none⟩, 
            ⟨some 38, .bin .quo (.t 36) (.t 37), none⟩, 
            ⟨some 39, .build [.int .i64 0, .int .i64 0] [(0, 1, .t 30), (1, 1, .t 38)], none⟩, 
            ⟨some 40, .buildSl 2 [.int .i64 0, .int .i64 0] 1 [(0, .t 39)], none⟩, 
            ⟨some 41, .append 62 2 16 (.t 24) (.t 40), none⟩, 
            ⟨some 42, .fieldA 1 (.t 5), none⟩, 
            ⟨none, .store 1 (.t 42) (.t 41), none⟩] true))
      (.ops [⟨some 21, .move (.t 6), none⟩, 
          ⟨some 22, .bin .add (.t 21) (.c (.int .i64 1)), none⟩, 
          ⟨some 6, .move (.t 22), none⟩] false))
def F73 : AF :=
  { ntmps := 44, results := [.cell 4 true 2], pure := true, body :=
    .seq
      (.ops [⟨some 2, .box 26 (.t 0), none⟩, 
          ⟨some 4, .alloc 26 [.int .i64 0, .fsl 2 []], none⟩] false)
      (.seq
        (.ops [⟨some 7, .build [.int .i64 0, .fsl 2 []] [], none⟩, 
            ⟨some 5, .alloc 26 [.int .i64 0, .fsl 2 []], none⟩, 
            ⟨none, .store 2 (.t 5) (.t 7), none⟩] false)
        (.seq
          (.ops [⟨some 9, .fieldA 0 (.t 2), none⟩, 
              ⟨some 10, .load false 1 (.t 9), none⟩, 
              ⟨some 11, .move (.t 1), none⟩, 
              ⟨some 12, .call 98 [.t 10, .t 11], none⟩, 
              ⟨some 8, .move (.t 12), none⟩, 
              ⟨some 13, .extract (.t 8) 0, none⟩, 
              ⟨some 14, .extract (.t 8) 1, none⟩, 
              ⟨some 15, .fieldA 0 (.t 5), none⟩, 
              ⟨none, .store 1 (.t 15) (.t 13), none⟩] false)
          (.seq
            (.seq
              (.ops [⟨some 6, .move (.c (.int .i64 0)), none⟩] false)
              (.block 0
                (.loop L73_0)))
            (.seq
              (.ops [⟨some 43, .load true 2 (.t 5), none⟩, 
                  ⟨none, .store 2 (.t 4) (.t 43), none⟩] false)
              (.ret))))) }

/- sequitur/lin.right -/
def F74 : AF :=
  { ntmps := 6, results := [.tmp 2], pure := true, body :=
    .seq
      (.ops [⟨some 2, .move (.c (.bool false)), none⟩] false)
      (.seq
        (.ops [⟨some 3, .move (.t 0), none⟩, 
            ⟨some 4, .call 99 [.t 3, .f 100], none⟩, 
            ⟨some 5, .not (.t 4), none⟩, 
            ⟨some 2, .move (.t 5), none⟩] false)
        (.ret)) }

/- (*sequitur/exact.Sum).Add -/
def F75 : AF :=
  { ntmps := 54, results := [], pure := false, body :=
    .seq
      (.ops [⟨some 10, .move (.t 1), none⟩, 
          ⟨some 11, .move (.t 2), none⟩, 
          ⟨some 12, .call 101 [.t 10, .t 11], none⟩, 
          ⟨some 9, .move (.t 12), none⟩, 
          ⟨some 13, .extract (.t 9) 0, none⟩, 
          ⟨some 14, .extract (.t 9) 1, none⟩, 
          ⟨some 6, .move (.t 13), none⟩, 
          ⟨some 7, .move (.t 14), none⟩] false)
      (.seq
        (.ops [⟨some 8, .move (.c (.int .u64 0)), none⟩] false)
        (.seq
          (.ops [⟨some 16, .move (.t 0), none⟩, 
              ⟨some 17, .move (.t 0), none⟩, 
              ⟨some 18, .nilck (.t 17), none⟩, 
              ⟨some 19, .fieldA 0 (.t 18), none⟩, 
              ⟨some 20, .load false 1 (.t 19), none⟩, 
              ⟨some 21, .move (.t 7), none⟩, 
              ⟨some 22, .add64 (.t 20) (.t 21) (.c (.int .u64 0)), none⟩, 
              ⟨some 15, .move (.t 22), none⟩, 
              ⟨some 23, .extract (.t 15) 0, none⟩, 
              ⟨some 24, .extract (.t 15) 1, none⟩, 
              ⟨some 25, .nilck (.t 16), none⟩, 
              ⟨some 26, .fieldA 0 (.t 25), none⟩, 
              ⟨none, .store 1 (.t 26) (.t 23), none⟩, 
              ⟨some 8, .move (.t 24), none⟩] false)
          (.seq
            (.ops [⟨some 28, .move (.t 0), none⟩, 
                ⟨some 29, .move (.t 0), none⟩, 
                ⟨some 30, .nilck (.t 29), none⟩, 
                ⟨some 31, .fieldA 1 (.t 30), none⟩, 
                ⟨some 32, .load false 1 (.t 31), none⟩, 
                ⟨some 33, .move (.t 6), none⟩, 
                ⟨some 34, .move (.t 8), none⟩, 
                ⟨some 35, .add64 (.t 32) (.t 33) (.t 34), none⟩, 
                ⟨some 27, .move (.t 35), none⟩, 
                ⟨some 36, .extract (.t 27) 0, none⟩, 
                ⟨some 37, .extract (.t 27) 1, none⟩, 
                ⟨some 38, .nilck (.t 28), none⟩, 
                ⟨some 39, .fieldA 1 (.t 38), none⟩, 
                ⟨none, .store 1 (.t 39) (.t 36), none⟩, 
                ⟨some 8, .move (.t 37), none⟩] false)
            (.ops [⟨some 41, .move (.t 0), none⟩, 
                ⟨some 42, .move (.t 0), none⟩, 
                ⟨some 43, .nilck (.t 42), none⟩, 
                ⟨some 44, .fieldA 2 (.t 43), none⟩, 
                ⟨some 45, .load false 1 (.t 44), none⟩, 
                ⟨some 46, .move (.t 6), none⟩, 
                ⟨some 47, .call 103 [.t 46], none⟩, 
                ⟨some 48, .move (.t 8), none⟩, 
                ⟨some 49, .add64 (.t 45) (.t 47) (.t 48), none⟩, 
                ⟨some 40, .move (.t 49), none⟩, 
                ⟨some 50, .extract (.t 40) 0, none⟩, 
                ⟨some 51, .extract (.t 40) 1, none⟩, 
                ⟨some 52, .nilck (.t 41), none⟩, 
                ⟨some 53, .fieldA 2 (.t 52), none⟩, 
                ⟨none, .store 1 (.t 53) (.t 50), none⟩] true)))) }

/- (*sequitur/exact.Sum).Fits -/
def F76 : AF :=
  { ntmps := 29, results := [.tmp 2, .tmp 3], pure := true, body :=
    .seq
      (.ops [⟨some 2, .move (.c (.int .i64 0)), none⟩, 
          ⟨some 3, .move (.c (.bool false)), none⟩] false)
      (.seq
        (.ops [⟨some 5, .move (.t 0), none⟩, 
            ⟨some 6, .nilck (.t 5), none⟩, 
            ⟨some 7, .fieldA 0 (.t 6), none⟩, 
            ⟨some 8, .load false 1 (.t 7), none⟩, 
            ⟨some 9, .call 103 [.t 8], none⟩, 
            ⟨some 4, .move (.t 9), none⟩] false)
        (.seq
          (.seq
            (.ops [⟨some 10, .move (.t 0), none⟩, 
                ⟨some 11, .nilck (.t 10), none⟩, 
                ⟨some 12, .fieldA 1 (.t 11), none⟩, 
                ⟨some 13, .load false 1 (.t 12), none⟩, 
                ⟨some 14, .move (.t 4), none⟩, 
                ⟨some 15, .bin .neq (.t 13) (.t 14), none⟩, 
                ⟨some 16, .move (.t 15), none⟩, 
                ⟨some 17, .move (.t 0), some (16, false)⟩, 
                ⟨some 18, .nilck (.t 17), some (16, false)⟩, 
                ⟨some 19, .fieldA 2 (.t 18), some (16, false)⟩, 
                ⟨some 20, .load false 1 (.t 19), some (16, false)⟩, 
                ⟨some 21, .move (.t 4), some (16, false)⟩, 
                ⟨some 22, .bin .neq (.t 20) (.t 21), some (16, false)⟩, 
                ⟨some 23, .pick (.t 16) (.c (.bool true)) (.t 22), none⟩] false)
            (.cond (.t 23)
              (.seq
                (.ops [⟨some 2, .move (.c (.int .i64 0)), none⟩, 
                    ⟨some 3, .move (.c (.bool false)), none⟩] false)
                (.ret))
              (.skip)))
          (.seq
            (.ops [⟨some 24, .move (.t 0), none⟩, 
                ⟨some 25, .nilck (.t 24), none⟩, 
                ⟨some 26, .fieldA 0 (.t 25), none⟩, 
                ⟨some 27, .load false 1 (.t 26), none⟩, 
                ⟨some 28, .conv .i64 (.t 27), none⟩, 
                ⟨some 2, .move (.t 28), none⟩, 
                ⟨some 3, .move (.c (.bool true)), none⟩] false)
            (.ret)))) }

/- sequitur/ineq.plain -/
def F88 : AF :=
  { ntmps := 13, results := [.tmp 2], pure := true, body :=
    .seq
      (.ops [⟨some 1, .box 51 (.t 0), none⟩, 
          ⟨some 2, .move (.c (.bool false)), none⟩] false)
      (.seq
        (.ops [⟨some 3, .load true 3 (.t 1), none⟩, 
            ⟨some 4, .call 24 [.t 3], none⟩, 
            ⟨some 5, .bin .eql (.t 4) (.c (.int .i64 0)), none⟩, 
            ⟨some 6, .move (.t 5), none⟩, 
            ⟨some 7, .fieldA 0 (.t 1), some (6, true)⟩, 
            ⟨some 8, .fieldA 1 (.t 7), some (6, true)⟩, 
            ⟨some 9, .load false 1 (.t 8), some (6, true)⟩, 
            ⟨some 10, .len (.t 9), some (6, true)⟩, 
            ⟨some 11, .bin .eql (.t 10) (.c (.int .i64 0)), some (6, true)⟩, 
            ⟨some 12, .pick (.t 6) (.t 11) (.c (.bool false)), none⟩, 
            ⟨some 2, .move (.t 12), none⟩] false)
        (.ret)) }

/- sequitur/lin.Sum -/
def L89_0 : AC :=
  .seq
    (.ops [⟨some 23, .bin .lss (.t 22) (.t 21), none⟩] false)
    (.seq
      (.cond (.t 23)
        (.skip)
        (.exit 0))
      (.seq
        (.block 1
          (.seq
            (.ops [⟨some 24, .move (.t 22), none⟩, 
                ⟨some 25, .idxA 2 (.t 20) (.t 22), none⟩, 
                ⟨some 26, .load true 2 (.t 25), none⟩, 
                ⟨some 8, .alloc 26 [.int .i64 0, .fsl 2 []], none⟩, 
                ⟨some 7, .move (.t 24), none⟩, 
                ⟨none, .store 2 (.t 8) (.t 26), none⟩] false)
            (.ops [⟨some 27, .move (.t 6), none⟩, 
                ⟨some 28, .load true 2 (.t 8), none⟩, 
                ⟨some 29, .move (.t 1), none⟩, 
                ⟨some 30, .move (.t 7), none⟩, 
                ⟨some 31, .idxA 1 (.t 29) (.t 30), none⟩, 
                ⟨some 32, .load false 1 (.t 31), none⟩, 
                ⟨some 33, .build [.int .i64 0, .fsl 2 [], .int .i64 0] [(0, 2, .t 28), (2, 1, .t 32)], none⟩, 
                ⟨some 34, .buildSl 3 [.int .i64 0, .fsl 2 [], .int .i64 0] 1 [(0, .t 33)], none⟩, 
                ⟨some 35, .append 150 3 40 (.t 27) (.t 34), none⟩, 
                ⟨some 6, .move (.t 35), none⟩] true)))
        (.ops [⟨some 36, .bin .add (.t 22) (.c (.int .i64 1)), none⟩, 
            ⟨some 22, .move (.t 36), none⟩] false)))
def F89 : AF :=
  { ntmps := 41, results := [.cell 4 true 2, .tmp 5], pure := true, body :=
    .seq
      (.ops [⟨some 4, .alloc 26 [.int .i64 0, .fsl 2 []], none⟩, 
          ⟨some 5, .move (.c (.int .i64 0)), none⟩] false)
      (.seq
        (.seq
          (.ops [⟨some 9, .move (.t 0), none⟩, 
              ⟨some 10, .call 74 [.t 9], none⟩, 
              ⟨some 11, .not (.t 10), none⟩, 
              ⟨some 12, .move (.t 11), none⟩, 
              ⟨some 13, .move (.t 0), some (12, false)⟩, 
              ⟨some 14, .len (.t 13), some (12, false)⟩, 
              ⟨some 15, .move (.t 1), some (12, false)⟩, 
              ⟨some 16, .len (.t 15), some (12, false)⟩, 
              ⟨some 17, .bin .neq (.t 14) (.t 16), some (12, false)⟩, 
              ⟨some 18, .pick (.t 12) (.c (.bool true)) (.t 17), none⟩] false)
          (.cond (.t 18)
            (.seq
              (.ops [⟨some 19, .build [.int .i64 0, .fsl 2 []] [], none⟩, 
                  ⟨none, .store 2 (.t 4) (.t 19), none⟩, 
                  ⟨some 5, .move (.c (.int .i64 1)), none⟩] false)
              (.ret))
            (.skip)))
        (.seq
          (.ops [⟨some 6, .move (.c (.fsl 3 [])), none⟩] false)
          (.seq
            (.seq
              (.ops [⟨some 20, .move (.t 0), none⟩, 
                  ⟨some 21, .len (.t 20), none⟩, 
                  ⟨some 22, .move (.c (.int .i64 0)), none⟩] false)
              (.block 0
                (.loop L89_0)))
            (.seq
              (.ops [⟨some 37, .move (.t 6), none⟩, 
                  ⟨some 38, .call 110 [.t 37], none⟩, 
                  ⟨some 39, .extract (.t 38) 0, none⟩, 
                  ⟨some 40, .extract (.t 38) 1, none⟩, 
                  ⟨none, .store 2 (.t 4) (.t 39), none⟩, 
                  ⟨some 5, .move (.t 40), none⟩] false)
              (.ret))))) }

/- sequitur/ineq.all -/
def F90 : AF :=
  { ntmps := 9, results := [.tmp 4], pure := true, body :=
    .seq
      (.ops [⟨some 2, .box 124 (.t 0), none⟩, 
          ⟨some 4, .move (.c (.bool false)), none⟩] false)
      (.seq
        (.ops [⟨some 5, .move (.t 1), none⟩, 
            ⟨some 6, .mkfn (.func 112) [] [.t 2], none⟩, 
            ⟨some 7, .call 111 [.t 5, .t 6], none⟩, 
            ⟨some 8, .not (.t 7), none⟩, 
            ⟨some 4, .move (.t 8), none⟩] false)
        (.ret)) }

/- sequitur/ineq.Sum$1 -/
def F91 : AF :=
  { ntmps := 8, results := [.tmp 3], pure := true, body :=
    .seq
      (.ops [⟨some 3, .move (.c (.bool false)), none⟩] false)
      (.seq
        (.ops [⟨some 4, .move (.t 0), none⟩, 
            ⟨some 5, .load false 1 (.t 1), none⟩, 
            ⟨some 6, .bin .rem (.t 4) (.t 5), none⟩, 
            ⟨some 7, .bin .eql (.t 6) (.c (.int .i64 0)), none⟩, 
            ⟨some 3, .move (.t 7), none⟩] false)
        (.ret)) }

/- sequitur/ineq.divided -/
def L92_0 : AC :=
  .seq
    (.ops [⟨some 23, .bin .lss (.t 22) (.t 21), none⟩] false)
    (.seq
      (.cond (.t 23)
        (.skip)
        (.exit 0))
      (.seq
        (.block 1
          (.seq
            (.ops [⟨some 24, .move (.t 22), none⟩, 
                ⟨some 6, .move (.t 24), none⟩] false)
            (.ops [⟨some 25, .fieldA 1 (.t 5), none⟩, 
                ⟨some 26, .load false 1 (.t 25), none⟩, 
                ⟨some 27, .move (.t 6), none⟩, 
                ⟨some 28, .idxA 2 (.t 26) (.t 27), none⟩, 
                ⟨some 29, .fieldA 1 (.t 28), none⟩, 
                ⟨some 30, .load false 1 (.t 29), none⟩, 
                ⟨some 31, .move (.t 1), none⟩, 
                ⟨some 32, .bin .quo (.t 30) (.t 31), none⟩, 
                ⟨some 33, .idxA 2 (.t 26) (.t 27), none⟩, 
                ⟨some 34, .fieldA 1 (.t 33), none⟩, 
                ⟨none, .store 1 (.t 34) (.t 32), none⟩] false)))
        (.ops [⟨some 35, .bin .add (.t 22) (.c (.int .i64 1)), none⟩, 
            ⟨some 22, .move (.t 35), none⟩] false)))
def F92 : AF :=
  { ntmps := 37, results := [.cell 4 true 2], pure := true, body :=
    .seq
      (.ops [⟨some 2, .box 26 (.t 0), none⟩, 
          ⟨some 4, .alloc 26 [.int .i64 0, .fsl 2 []], none⟩] false)
      (.seq
        (.ops [⟨some 7, .fieldA 1 (.t 2), none⟩, 
            ⟨some 8, .load false 1 (.t 7), none⟩, 
            ⟨some 9, .call 1000044 [.t 8], none⟩, 
            ⟨some 10, .build [.int .i64 0, .fsl 2 []] [(1, 1, .t 9)], none⟩, 
            ⟨some 5, .alloc 26 [.int .i64 0, .fsl 2 []], none⟩, 
            ⟨none, .store 2 (.t 5) (.t 10), none⟩] false)
        (.seq
          (.ops [⟨some 12, .fieldA 0 (.t 2), none⟩, 
              ⟨some 13, .load false 1 (.t 12), none⟩, 
              ⟨some 14, .move (.t 1), none⟩, 
              ⟨some 15, .call 113 [.t 13, .t 14], none⟩, 
              ⟨some 11, .move (.t 15), none⟩, 
              ⟨some 16, .extract (.t 11) 0, none⟩, 
              ⟨some 17, .extract (.t 11) 1, none⟩, 
              ⟨some 18, .fieldA 0 (.t 5), none⟩, 
              ⟨none, .store 1 (.t 18) (.t 16), none⟩] false)
          (.seq
            (.seq
              (.ops [⟨some 19, .fieldA 1 (.t 5), none⟩, 
                  ⟨some 20, .load false 1 (.t 19), none⟩, 
                  ⟨some 21, .len (.t 20), none⟩, 
                  ⟨some 22, .move (.c (.int .i64 0)), none⟩] false)
              (.block 0
                (.loop L92_0)))
            (.seq
              (.ops [⟨some 36, .load true 2 (.t 5), none⟩, 
                  ⟨none, .store 2 (.t 4) (.t 36), none⟩] false)
              (.ret))))) }

/- sequitur/lin.Scale -/
def F93 : AF :=
  { ntmps := 13, results := [.cell 4 true 2, .tmp 5], pure := true, body :=
    .seq
      (.ops [⟨some 2, .box 26 (.t 0), none⟩, 
          ⟨some 4, .alloc 26 [.int .i64 0, .fsl 2 []], none⟩, 
          ⟨some 5, .move (.c (.int .i64 0)), none⟩] false)
      (.seq
        (.ops [⟨some 6, .load true 2 (.t 2), none⟩, 
            ⟨some 7, .buildSl 2 [.int .i64 0, .fsl 2 []] 1 [(0, .t 6)], none⟩, 
            ⟨some 8, .move (.t 1), none⟩, 
            ⟨some 9, .buildSl 1 [.int .i64 0] 1 [(0, .t 8)], none⟩, 
            ⟨some 10, .call 89 [.t 7, .t 9], none⟩, 
            ⟨some 11, .extract (.t 10) 0, none⟩, 
            ⟨some 12, .extract (.t 10) 1, none⟩, 
            ⟨none, .store 2 (.t 4) (.t 11), none⟩, 
            ⟨some 5, .move (.t 12), none⟩] false)
        (.ret)) }

/- sequitur/lin.Add -/
def F94 : AF :=
  { ntmps := 13, results := [.cell 4 true 2, .tmp 5], pure := true, body :=
    .seq
      (.ops [⟨some 2, .box 26 (.t 0), none⟩, 
          ⟨some 3, .box 26 (.t 1), none⟩, 
          ⟨some 4, .alloc 26 [.int .i64 0, .fsl 2 []], none⟩, 
          ⟨some 5, .move (.c (.int .i64 0)), none⟩] false)
      (.seq
        (.ops [⟨some 6, .load true 2 (.t 2), none⟩, 
            ⟨some 7, .load true 2 (.t 3), none⟩, 
            ⟨some 8, .buildSl 2 [.int .i64 0, .fsl 2 []] 2 [(0, .t 6), (1, .t 7)], none⟩, 
            ⟨some 9, .buildSl 1 [.int .i64 0] 2 [(0, .c (.int .i64 1)), (1, .c (.int .i64 1))], none⟩, 
            ⟨some 10, .call 89 [.t 8, .t 9], none⟩, 
            ⟨some 11, .extract (.t 10) 0, none⟩, 
            ⟨some 12, .extract (.t 10) 1, none⟩, 
            ⟨none, .store 2 (.t 4) (.t 11), none⟩, 
            ⟨some 5, .move (.t 12), none⟩] false)
        (.ret)) }

/- sequitur/sequiturref28.More -/
def F95 : AF :=
  { ntmps := 34, results := [.cell 6 true 3], pure := true, body :=
    .seq
      (.ops [⟨some 3, .box 130 (.t 0), none⟩, 
          ⟨some 6, .alloc 130 [.int .i64 0, .int .u64 0, .int .u64 0], none⟩] false)
      (.seq
        (.ops [⟨some 10, .move (.t 1), none⟩, 
            ⟨some 11, .move (.t 2), none⟩, 
            ⟨some 12, .call 114 [.t 10, .t 11], none⟩, 
            ⟨some 7, .alloc 128 [.int .i64 0, .int .u64 0], none⟩, 
            ⟨none, .store 2 (.t 7) (.t 12), none⟩] false)
        (.seq
          (.ops [⟨some 13, .fieldA 2 (.t 3), none⟩, 
              ⟨some 14, .load false 1 (.t 13), none⟩, 
              ⟨some 15, .fieldA 1 (.t 7), none⟩, 
              ⟨some 16, .load false 1 (.t 15), none⟩, 
              ⟨some 17, .bin .add (.t 14) (.t 16), none⟩, 
              ⟨some 8, .move (.t 17), none⟩] false)
          (.seq
            (.opsW [⟨some 18, .fieldA 0 (.t 3), none⟩, 
                ⟨some 19, .load true 2 (.t 18), none⟩, 
                ⟨some 20, .fieldA 0 (.t 7), none⟩, 
                ⟨some 21, .load false 1 (.t 20), none⟩, 
                ⟨some 22, .call 116 [.t 21], none⟩, 
                ⟨some 23, .call 115 [.t 19, .t 22], none⟩, 
                ⟨some 9, .alloc 128 [.int .i64 0, .int .u64 0], none⟩, 
                ⟨none, .store 2 (.t 9) (.t 23), none⟩])
            (.seq
              (.seq
                (.ops [⟨some 24, .move (.t 8), none⟩, 
                    ⟨some 25, .fieldA 2 (.t 3), none⟩, 
                    ⟨some 26, .load false 1 (.t 25), none⟩, 
                    ⟨some 27, .bin .lss (.t 24) (.t 26), none⟩] false)
                (.cond (.t 27)
                  (.opsW [⟨some 28, .load true 2 (.t 9), none⟩, 
                      ⟨some 29, .call 116 [.c (.int .i64 1)], none⟩, 
                      ⟨some 30, .call 115 [.t 28, .t 29], none⟩, 
                      ⟨none, .store 2 (.t 9) (.t 30), none⟩])
                  (.skip)))
              (.seq
                (.ops [⟨some 31, .load true 2 (.t 9), none⟩, 
                    ⟨some 32, .move (.t 8), none⟩, 
                    ⟨some 33, .build [.int .i64 0, .int .u64 0, .int .u64 0] [(0, 2, .t 31), (2, 1, .t 32)], none⟩, 
                    ⟨none, .store 3 (.t 6) (.t 33), none⟩] false)
                (.ret)))))) }

/- sequitur/sequiturref28.Fits -/
def F96 : AF :=
  { ntmps := 21, results := [.tmp 2, .tmp 3], pure := true, body :=
    .seq
      (.ops [⟨some 1, .box 130 (.t 0), none⟩, 
          ⟨some 2, .move (.c (.int .i64 0)), none⟩, 
          ⟨some 3, .move (.c (.bool false)), none⟩] false)
      (.seq
        (.ops [⟨some 7, .fieldA 0 (.t 1), none⟩, 
            ⟨some 8, .load true 2 (.t 7), none⟩, 
            ⟨some 9, .call 117 [.t 8], none⟩, 
            ⟨some 6, .move (.t 9), none⟩, 
            ⟨some 10, .extract (.t 6) 0, none⟩, 
            ⟨some 11, .extract (.t 6) 1, none⟩, 
            ⟨some 4, .move (.t 10), none⟩, 
            ⟨some 5, .move (.t 11), none⟩] false)
        (.seq
          (.seq
            (.ops [⟨some 12, .move (.t 5), none⟩, 
                ⟨some 13, .not (.t 12), none⟩] false)
            (.cond (.t 13)
              (.seq
                (.ops [⟨some 2, .move (.c (.int .i64 0)), none⟩, 
                    ⟨some 3, .move (.c (.bool false)), none⟩] false)
                (.ret))
              (.skip)))
          (.seq
            (.ops [⟨some 14, .move (.t 4), none⟩, 
                ⟨some 15, .fieldA 2 (.t 1), none⟩, 
                ⟨some 16, .load false 1 (.t 15), none⟩, 
                ⟨some 17, .build [.int .i64 0, .int .u64 0] [(0, 1, .t 14), (1, 1, .t 16)], none⟩, 
                ⟨some 18, .call 117 [.t 17], none⟩, 
                ⟨some 19, .extract (.t 18) 0, none⟩, 
                ⟨some 20, .extract (.t 18) 1, none⟩, 
                ⟨some 2, .move (.t 19), none⟩, 
                ⟨some 3, .move (.t 20), none⟩] false)
            (.ret)))) }

/- sequitur/sequiturref28.By -/
def L97_0 : AC :=
  .seq
    (.seq
      (.ops [⟨some 6, .move (.t 5), none⟩, 
          ⟨some 7, .fieldA 1 (.t 2), none⟩, 
          ⟨some 8, .load false 1 (.t 7), none⟩, 
          ⟨some 9, .len (.t 8), none⟩, 
          ⟨some 10, .bin .lss (.t 6) (.t 9), none⟩] false)
      (.cond (.t 10)
        (.skip)
        (.exit 0)))
    (.seq
      (.block 1
        (.seq
          (.ops [⟨some 13, .fieldA 1 (.t 2), none⟩, 
              ⟨some 14, .load false 1 (.t 13), none⟩, 
              ⟨some 15, .move (.t 5), none⟩, 
              ⟨some 16, .idxA 2 (.t 14) (.t 15), none⟩, 
              ⟨some 17, .fieldA 0 (.t 16), none⟩, 
              ⟨some 18, .load false 1 (.t 17), none⟩, 
              ⟨some 19, .move (.t 1), none⟩, 
              ⟨some 20, .bin .eql (.t 18) (.t 19), none⟩] false)
          (.cond (.t 20)
            (.seq
              (.ops [⟨some 21, .fieldA 1 (.t 2), none⟩, 
                  ⟨some 22, .load false 1 (.t 21), none⟩, 
                  ⟨some 23, .move (.t 5), none⟩, 
                  ⟨some 24, .idxA 2 (.t 22) (.t 23), none⟩, 
                  ⟨some 25, .fieldA 1 (.t 24), none⟩, 
                  ⟨some 26, .load false 1 (.t 25), none⟩, 
                  ⟨some 4, .move (.t 26), none⟩] false)
              (.ret))
            (.skip))))
      (.ops [⟨some 11, .move (.t 5), none⟩, 
          ⟨some 12, .bin .add (.t 11) (.c (.int .i64 1)), none⟩, 
          ⟨some 5, .move (.t 12), none⟩] false))
def F97 : AF :=
  { ntmps := 27, results := [.tmp 4], pure := true, body :=
    .seq
      (.ops [⟨some 2, .box 26 (.t 0), none⟩, 
          ⟨some 4, .move (.c (.int .i64 0)), none⟩] false)
      (.seq
        (.seq
          (.ops [⟨some 5, .move (.c (.int .i64 0)), none⟩] false)
          (.block 0
            (.loop L97_0)))
        (.seq
          (.ops [⟨some 4, .move (.c (.int .i64 0)), none⟩] false)
          (.ret))) }

/- sequitur/sequiturref01.Ceil -/
def F98 : AF :=
  { ntmps := 31, results := [.tmp 4, .tmp 5], pure := true, body :=
    .seq
      (.ops [⟨some 4, .move (.c (.int .i64 0)), none⟩, 
          ⟨some 5, .move (.c (.bool false)), none⟩] false)
      (.seq
        (.ops [⟨some 11, .move (.t 0), none⟩, 
            ⟨some 12, .move (.t 1), none⟩, 
            ⟨some 13, .call 118 [.t 11, .t 12], none⟩, 
            ⟨some 10, .move (.t 13), none⟩, 
            ⟨some 14, .extract (.t 10) 0, none⟩, 
            ⟨some 15, .extract (.t 10) 1, none⟩, 
            ⟨some 6, .move (.t 14), none⟩, 
            ⟨some 7, .move (.t 15), none⟩] false)
        (.seq
          (.ops [⟨some 17, .move (.t 0), none⟩, 
              ⟨some 18, .move (.t 1), none⟩, 
              ⟨some 19, .call 119 [.t 17, .t 18], none⟩, 
              ⟨some 16, .move (.t 19), none⟩, 
              ⟨some 20, .extract (.t 16) 0, none⟩, 
              ⟨some 21, .extract (.t 16) 1, none⟩, 
              ⟨some 8, .move (.t 20), none⟩, 
              ⟨some 9, .move (.t 21), none⟩] false)
          (.seq
            (.seq
              (.ops [⟨some 22, .move (.t 7), none⟩, 
                  ⟨some 23, .move (.t 22), none⟩, 
                  ⟨some 24, .move (.t 8), some (23, true)⟩, 
                  ⟨some 25, .bin .neq (.t 24) (.c (.int .i64 0)), some (23, true)⟩, 
                  ⟨some 26, .pick (.t 23) (.t 25) (.c (.bool false)), none⟩] false)
              (.cond (.t 26)
                (.ops [⟨some 27, .move (.t 6), none⟩, 
                    ⟨some 28, .bin .add (.t 27) (.c (.int .i64 1)), none⟩, 
                    ⟨some 6, .move (.t 28), none⟩] false)
                (.skip)))
            (.seq
              (.ops [⟨some 29, .move (.t 6), none⟩, 
                  ⟨some 30, .move (.t 7), none⟩, 
                  ⟨some 4, .move (.t 29), none⟩, 
                  ⟨some 5, .move (.t 30), none⟩] false)
              (.ret))))) }

/- slices.ContainsFunc[[]sequitur/api.Lin,sequitur/api.Lin] -/
def F99 : AF :=
  { ntmps := 9, results := [.tmp 4], pure := true, body :=
    .seq
      (.ops [⟨some 4, .move (.c (.bool false)), none⟩] false)
      (.seq
        (.ops [⟨some 5, .move (.t 0), none⟩, 
            ⟨some 6, .move (.t 1), none⟩, 
            ⟨some 7, .call 120 [.t 5, .t 6], none⟩, 
            ⟨some 8, .bin .geq (.t 7) (.c (.int .i64 0)), none⟩, 
            ⟨some 4, .move (.t 8), none⟩] false)
        (.ret)) }

/- sequitur/lin.right$1 -/
def F100 : AF :=
  { ntmps := 6, results := [.tmp 2], pure := true, body :=
    .seq
      (.ops [⟨some 1, .box 26 (.t 0), none⟩, 
          ⟨some 2, .move (.c (.bool false)), none⟩] false)
      (.seq
        (.ops [⟨some 3, .load true 2 (.t 1), none⟩, 
            ⟨some 4, .call 43 [.t 3], none⟩, 
            ⟨some 5, .bin .neq (.t 4) (.c (.int .i64 0)), none⟩, 
            ⟨some 2, .move (.t 5), none⟩] false)
        (.ret)) }

/- sequitur/exact.product -/
def F101 : AF :=
  { ntmps := 30, results := [.tmp 4, .tmp 5], pure := true, body :=
    .seq
      (.ops [⟨some 4, .move (.c (.int .u64 0)), none⟩, 
          ⟨some 5, .move (.c (.int .u64 0)), none⟩] false)
      (.seq
        (.ops [⟨some 9, .move (.t 0), none⟩, 
            ⟨some 10, .conv .u64 (.t 9), none⟩, 
            ⟨some 11, .move (.t 1), none⟩, 
            ⟨some 12, .conv .u64 (.t 11), none⟩, 
            ⟨some 13, .call 121 [.t 10, .t 12], none⟩, 
            ⟨some 8, .move (.t 13), none⟩, 
            ⟨some 14, .extract (.t 8) 0, none⟩, 
            ⟨some 15, .extract (.t 8) 1, none⟩, 
            ⟨some 6, .move (.t 14), none⟩, 
            ⟨some 7, .move (.t 15), none⟩] false)
        (.seq
          (.seq
            (.ops [⟨some 16, .move (.t 0), none⟩, 
                ⟨some 17, .bin .lss (.t 16) (.c (.int .i64 0)), none⟩] false)
            (.cond (.t 17)
              (.ops [⟨some 18, .move (.t 6), none⟩, 
                  ⟨some 19, .move (.t 1), none⟩, 
                  ⟨some 20, .conv .u64 (.t 19), none⟩, 
                  ⟨some 21, .bin .sub (.t 18) (.t 20), none⟩, 
                  ⟨some 6, .move (.t 21), none⟩] false)
              (.skip)))
          (.seq
            (.seq
              (.ops [⟨some 22, .move (.t 1), none⟩, 
                  ⟨some 23, .bin .lss (.t 22) (.c (.int .i64 0)), none⟩] false)
              (.cond (.t 23)
                (.ops [⟨some 24, .move (.t 6), none⟩, 
                    ⟨some 25, .move (.t 0), none⟩, 
                    ⟨some 26, .conv .u64 (.t 25), none⟩, 
                    ⟨some 27, .bin .sub (.t 24) (.t 26), none⟩, 
                    ⟨some 6, .move (.t 27), none⟩] false)
                (.skip)))
            (.seq
              (.ops [⟨some 28, .move (.t 6), none⟩, 
                  ⟨some 29, .move (.t 7), none⟩, 
                  ⟨some 4, .move (.t 28), none⟩, 
                  ⟨some 5, .move (.t 29), none⟩] false)
              (.ret))))) }

/- sequitur/exact.sign -/
def F103 : AF :=
  { ntmps := 7, results := [.tmp 2], pure := true, body :=
    .seq
      (.ops [⟨some 2, .move (.c (.int .u64 0)), none⟩] false)
      (.seq
        (.ops [⟨some 3, .move (.t 0), none⟩, 
            ⟨some 4, .conv .i64 (.t 3), none⟩, 
            ⟨some 5, .sh false (.t 4) (.c (.int .u64 63)), none⟩, 
            ⟨some 6, .conv .u64 (.t 5), none⟩, 
            ⟨some 2, .move (.t 6), none⟩] false)
        (.ret)) }

/- sequitur/lin.sum -/
def L110_1 : AC :=
  .seq
    (.ops [⟨some 33, .bin .lss (.t 32) (.t 31), none⟩] false)
    (.seq
      (.cond (.t 33)
        (.skip)
        (.exit 2))
      (.seq
        (.block 3
          (.seq
            (.ops [⟨some 34, .idxA 2 (.t 30) (.t 32), none⟩, 
                ⟨some 35, .load true 2 (.t 34), none⟩, 
                ⟨some 9, .alloc 62 [.int .i64 0, .int .i64 0], none⟩, 
                ⟨none, .store 2 (.t 9) (.t 35), none⟩] false)
            (.ops [⟨some 36, .fieldA 0 (.t 9), none⟩, 
                ⟨some 37, .load false 1 (.t 36), none⟩, 
                ⟨some 38, .idxArrA 64 3 (.t 5) (.t 37), none⟩, 
                ⟨some 39, .fieldA 1 (.t 9), none⟩, 
                ⟨some 40, .load false 1 (.t 39), none⟩, 
                ⟨some 41, .fieldA 2 (.t 7), none⟩, 
                ⟨some 42, .load false 1 (.t 41), none⟩, 
                ⟨some 43, .call 75 [.t 38, .t 40, .t 42], none⟩] true)))
        (.ops [⟨some 44, .bin .add (.t 32) (.c (.int .i64 1)), none⟩, 
            ⟨some 32, .move (.t 44), none⟩] false)))

def L110_0 : AC :=
  .seq
    (.ops [⟨some 19, .bin .lss (.t 18) (.t 17), none⟩] false)
    (.seq
      (.cond (.t 19)
        (.skip)
        (.exit 0))
      (.seq
        (.block 1
          (.seq
            (.ops [⟨some 20, .idxA 3 (.t 16) (.t 18), none⟩, 
                ⟨some 21, .load true 3 (.t 20), none⟩, 
                ⟨some 7, .alloc 150 [.int .i64 0, .fsl 2 [], .int .i64 0], none⟩, 
                ⟨none, .store 3 (.t 7) (.t 21), none⟩] false)
            (.seq
              (.ops [⟨some 22, .fieldA 0 (.t 7), none⟩, 
                  ⟨some 23, .fieldA 0 (.t 22), none⟩, 
                  ⟨some 24, .load false 1 (.t 23), none⟩, 
                  ⟨some 25, .fieldA 2 (.t 7), none⟩, 
                  ⟨some 26, .load false 1 (.t 25), none⟩, 
                  ⟨some 27, .call 75 [.t 4, .t 24, .t 26], none⟩] false)
              (.seq
                (.ops [⟨some 28, .fieldA 0 (.t 7), none⟩, 
                    ⟨some 29, .fieldA 1 (.t 28), none⟩, 
                    ⟨some 30, .load false 1 (.t 29), none⟩, 
                    ⟨some 31, .len (.t 30), none⟩, 
                    ⟨some 32, .move (.c (.int .i64 0)), none⟩] false)
                (.block 2
                  (.loop L110_1))))))
        (.ops [⟨some 45, .bin .add (.t 18) (.c (.int .i64 1)), none⟩, 
            ⟨some 18, .move (.t 45), none⟩] false)))

def L110_2 : AC :=
  .seq
    (.ops [⟨some 53, .bin .lss (.t 52) (.c (.int .i64 64)), none⟩] false)
    (.seq
      (.cond (.t 53)
        (.skip)
        (.exit 4))
      (.seq
        (.block 5
          (.seq
            (.ops [⟨some 54, .move (.t 52), none⟩, 
                ⟨some 13, .move (.t 54), none⟩] false)
            (.seq
              (.ops [⟨some 56, .move (.t 13), none⟩, 
                  ⟨some 57, .idxArrA 64 3 (.t 5) (.t 56), none⟩, 
                  ⟨some 58, .call 76 [.t 57], none⟩, 
                  ⟨some 55, .move (.t 58), none⟩, 
                  ⟨some 59, .extract (.t 55) 0, none⟩, 
                  ⟨some 60, .extract (.t 55) 1, none⟩, 
                  ⟨some 14, .move (.t 59), none⟩, 
                  ⟨some 15, .move (.t 60), none⟩] false)
              (.seq
                (.ops [⟨some 61, .move (.t 11), none⟩, 
                    ⟨some 62, .move (.t 61), none⟩, 
                    ⟨some 63, .move (.t 15), some (62, true)⟩, 
                    ⟨some 64, .pick (.t 62) (.t 63) (.c (.bool false)), none⟩, 
                    ⟨some 11, .move (.t 64), none⟩] false)
                (.seq
                  (.ops [⟨some 65, .move (.t 14), none⟩, 
                      ⟨some 66, .bin .neq (.t 65) (.c (.int .i64 0)), none⟩] false)
                  (.cond (.t 66)
                    (.ops [⟨some 67, .fieldA 1 (.t 12), none⟩, 
                        ⟨some 68, .load false 1 (.t 67), none⟩, 
                        ⟨some 69, .move (.t 13), none⟩, 
                        ⟨some 70, .move (.t 14), none⟩, 
                        ⟨some 71, .build [.int .i64 0, .int .i64 0] [(0, 1, .t 69), (1, 1, .t 70)], none⟩, 
                        ⟨some 72, .buildSl 2 [.int .i64 0, .int .i64 0] 1 [(0, .t 71)], none⟩, 
                        ⟨some 73, .append 62 2 16 (.t 68) (.t 72), none⟩, 
                        ⟨some 74, .fieldA 1 (.t 12), none⟩, 
                        ⟨none, .store 1 (.t 74) (.t 73), none⟩] false)
                    (.skip)))))))
        (.ops [⟨some 75, .bin .add (.t 52) (.c (.int .i64 1)), none⟩, 
            ⟨some 52, .move (.t 75), none⟩] false)))
def F110 : AF :=
  { ntmps := 80, results := [.cell 2 true 2, .tmp 3], pure := true, body :=
    .seq
      (.ops [⟨some 2, .alloc 26 [.int .i64 0, .fsl 2 []], none⟩, 
          ⟨some 3, .move (.c (.int .i64 0)), none⟩] false)
      (.seq
        (.ops [⟨some 4, .alloc 108 [.int .u64 0, .int .u64 0, .int .u64 0], none⟩] false)
        (.seq
          (.ops [⟨some 5, .alloc 162 [.int .u64 0, .int .u64 0, .int .u64 0, .int .u64 0, .int .u64 0, .int .u64 0, .int .u64 0, .int .u64 0, .int .u64 0, .int .u64 0, .int .u64 0, .int .u64 0, .int .u64 0, .int .u64 0, .int .u64 0, .int .u64 0, .int .u64 0, .int .u64 0, .int .u64 0, .int .u64 0, .int .u64 0, .int .u64 0, .int .u64 0, .int .u64 0, .int .u64 0, .int .u64 0, .int .u64 0, .int .u64 0, .int .u64 0, .int .u64 0, .int .u64 0, .int .u64 0, .int .u64 0, .int .u64 0, .int .u64 0, .int .u64 0, .int .u64 0, .int .u64 0, .int .u64 0, .int .u64 0, .int .u64 0, .int .u64 0, .int .u64 0, .int .u64 0, .int .u64 0, .int .u64 0, .int .u64 0, .int .u64 0, .int .u64 0, .int .u64 0, .int .u64 0, .int .u64 0, .int .u64 0, .int .u64 0, .int .u64 0, .int .u64 0, .int .u64 0, .int .u64 0, .int .u64 0, .int .u64 0, .int .u64 0, .int .u64 0, .int .u64 0, .int .u64 0, .int .u64 0, .int .u64 0, .int .u64 0, .int .u64 0, .int .u64 0, .int .u64 0, .int .u64 0, .int .u64 0, .int .u64 0, .int .u64 0, .int .u64 0, .int .u64 0, .int .u64 0, .int .u64 0, .int .u64 0, .int .u64 0, .int .u64 0, .int .u64 0, .int .u64 0, .int .u64 0, .int .u64 0, .int .u64 0, .int .u64 0, .int .u64 0, .int .u64 0, .int .u64 0, .int .u64 0, .int .u64 0, .int .u64 0, .int .u64 0, .int .u64 0, .int .u64 0, .int .u64 0, .int .u64 0, .int .u64 0, .int .u64 0, .int .u64 0, .int .u64 0, .int .u64 0, .int .u64 0, .int .u64 0, .int .u64 0, .int .u64 0, .int .u64 0, .int .u64 0, .int .u64 0, .int .u64 0, .int .u64 0, .int .u64 0, .int .u64 0, .int .u64 0, .int .u64 0, .int .u64 0, .int .u64 0, .int .u64 0, .int .u64 0, .int .u64 0, .int .u64 0, .int .u64 0, .int .u64 0, .int .u64 0, .int .u64 0, .int .u64 0, .int .u64 0, .int .u64 0, .int .u64 0, .int .u64 0, .int .u64 0, .int .u64 0, .int .u64 0, .int .u64 0, .int .u64 0, .int .u64 0, .int .u64 0, .int .u64 0, .int .u64 0, .int .u64 0, .int .u64 0, .int .u64 0, .int .u64 0, .int .u64 0, .int .u64 0, .int .u64 0, .int .u64 0, .int .u64 0, .int .u64 0, .int .u64 0, .int .u64 0, .int .u64 0, .int .u64 0, .int .u64 0, .int .u64 0, .int .u64 0, .int .u64 0, .int .u64 0, .int .u64 0, .int .u64 0, .int .u64 0, .int .u64 0, .int .u64 0, .int .u64 0, .int .u64 0, .int .u64 0, .int .u64 0, .int .u64 0, .int .u64 0, .int .u64 0, .int .u64 0, .int .u64 0, .int .u64 0, .int .u64 0, .int .u64 0, .int .u64 0, .int .u64 0, .int .u64 0, .int .u64 0, .int .u64 0, .int .u64 0, .int .u64 0, .int .u64 0, .int .u64 0, .int .u64 0, .int .u64 0, .int .u64 0, .int .u64 0, .int .u64 0, .int .u64 0, .int .u64 0], none⟩] false)
          (.seq
            (.seq
              (.ops [⟨some 16, .move (.t 0), none⟩, 
                  ⟨some 17, .len (.t 16), none⟩, 
                  ⟨some 18, .move (.c (.int .i64 0)), none⟩] false)
              (.block 0
                (.loop L110_0)))
            (.seq
              (.ops [⟨some 47, .call 76 [.t 4], none⟩, 
                  ⟨some 46, .move (.t 47), none⟩, 
                  ⟨some 48, .extract (.t 46) 0, none⟩, 
                  ⟨some 49, .extract (.t 46) 1, none⟩, 
                  ⟨some 10, .move (.t 48), none⟩, 
                  ⟨some 11, .move (.t 49), none⟩] false)
              (.seq
                (.ops [⟨some 50, .move (.t 10), none⟩, 
                    ⟨some 51, .build [.int .i64 0, .fsl 2 []] [(0, 1, .t 50)], none⟩, 
                    ⟨some 12, .alloc 26 [.int .i64 0, .fsl 2 []], none⟩, 
                    ⟨none, .store 2 (.t 12) (.t 51), none⟩] false)
                (.seq
                  (.seq
                    (.ops [⟨some 52, .move (.c (.int .i64 0)), none⟩] false)
                    (.block 4
                      (.loop L110_2)))
                  (.seq
                    (.seq
                      (.ops [⟨some 76, .move (.t 11), none⟩, 
                          ⟨some 77, .not (.t 76), none⟩] false)
                      (.cond (.t 77)
                        (.seq
                          (.ops [⟨some 78, .build [.int .i64 0, .fsl 2 []] [], none⟩, 
                              ⟨none, .store 2 (.t 2) (.t 78), none⟩, 
                              ⟨some 3, .move (.c (.int .i64 5)), none⟩] false)
                          (.ret))
                        (.skip)))
                    (.seq
                      (.ops [⟨some 79, .load true 2 (.t 12), none⟩, 
                          ⟨none, .store 2 (.t 2) (.t 79), none⟩, 
                          ⟨some 3, .move (.c (.int .i64 0)), none⟩] false)
                      (.ret))))))))) }

/- slices.ContainsFunc[[]int64,int64] -/
def F111 : AF :=
  { ntmps := 9, results := [.tmp 4], pure := true, body :=
    .seq
      (.ops [⟨some 4, .move (.c (.bool false)), none⟩] false)
      (.seq
        (.ops [⟨some 5, .move (.t 0), none⟩, 
            ⟨some 6, .move (.t 1), none⟩, 
            ⟨some 7, .call 123 [.t 5, .t 6], none⟩, 
            ⟨some 8, .bin .geq (.t 7) (.c (.int .i64 0)), none⟩, 
            ⟨some 4, .move (.t 8), none⟩] false)
        (.ret)) }

/- sequitur/ineq.all$1 -/
def F112 : AF :=
  { ntmps := 8, results := [.tmp 3], pure := true, body :=
    .seq
      (.ops [⟨some 3, .move (.c (.bool false)), none⟩] false)
      (.seq
        (.ops [⟨some 4, .load false 1 (.t 1), none⟩, 
            ⟨some 5, .move (.t 0), none⟩, 
            ⟨some 6, .callv (.t 4) [.t 5], none⟩, 
            ⟨some 7, .not (.t 6), none⟩, 
            ⟨some 3, .move (.t 7), none⟩] false)
        (.ret)) }

/- sequitur/num.Ceil -/
def F113 : AF :=
  { ntmps := 27, results := [.tmp 4, .tmp 5], pure := true, body :=
    .seq
      (.ops [⟨some 4, .move (.c (.int .i64 0)), none⟩, 
          ⟨some 5, .move (.c (.bool false)), none⟩] false)
      (.seq
        (.seq
          (.ops [⟨some 7, .move (.t 0), none⟩, 
              ⟨some 8, .move (.t 1), none⟩, 
              ⟨some 9, .call 124 [.t 7, .t 8], none⟩] false)
          (.cond (.t 9)
            (.seq
              (.ops [⟨some 4, .move (.c (.int .i64 0)), none⟩, 
                  ⟨some 5, .move (.c (.bool false)), none⟩] false)
              (.ret))
            (.skip)))
        (.seq
          (.ops [⟨some 10, .move (.t 0), none⟩, 
              ⟨some 11, .move (.t 1), none⟩, 
              ⟨some 12, .bin .quo (.t 10) (.t 11), none⟩, 
              ⟨some 6, .move (.t 12), none⟩] false)
          (.seq
            (.seq
              (.ops [⟨some 13, .move (.t 0), none⟩, 
                  ⟨some 14, .move (.t 1), none⟩, 
                  ⟨some 15, .bin .rem (.t 13) (.t 14), none⟩, 
                  ⟨some 16, .bin .neq (.t 15) (.c (.int .i64 0)), none⟩, 
                  ⟨some 17, .move (.t 16), none⟩, 
                  ⟨some 18, .move (.t 0), some (17, true)⟩, 
                  ⟨some 19, .bin .lss (.t 18) (.c (.int .i64 0)), some (17, true)⟩, 
                  ⟨some 20, .move (.t 1), some (17, true)⟩, 
                  ⟨some 21, .bin .lss (.t 20) (.c (.int .i64 0)), some (17, true)⟩, 
                  ⟨some 22, .beq false (.t 19) (.t 21), some (17, true)⟩, 
                  ⟨some 23, .pick (.t 17) (.t 22) (.c (.bool false)), none⟩] false)
              (.cond (.t 23)
                (.ops [⟨some 24, .move (.t 6), none⟩, 
                    ⟨some 25, .bin .add (.t 24) (.c (.int .i64 1)), none⟩, 
                    ⟨some 6, .move (.t 25), none⟩] false)
                (.skip)))
            (.seq
              (.ops [⟨some 26, .move (.t 6), none⟩, 
                  ⟨some 4, .move (.t 26), none⟩, 
                  ⟨some 5, .move (.c (.bool true)), none⟩] false)
              (.ret))))) }

/- sequitur/sequiturref01.Times -/
def L114_0 : AC :=
  .seq
    (.seq
      (.ops [⟨some 17, .move (.t 7), none⟩, 
          ⟨some 18, .bin .gtr (.t 17) (.c (.int .u64 0)), none⟩] false)
      (.cond (.t 18)
        (.skip)
        (.exit 0)))
    (.seq
      (.block 1
        (.seq
          (.seq
            (.ops [⟨some 21, .move (.t 7), none⟩, 
                ⟨some 22, .bin .rem (.t 21) (.c (.int .u64 2)), none⟩, 
                ⟨some 23, .bin .eql (.t 22) (.c (.int .u64 1)), none⟩] false)
            (.cond (.t 23)
              (.ops [⟨some 24, .load true 2 (.t 6), none⟩, 
                  ⟨some 25, .load true 2 (.t 5), none⟩, 
                  ⟨some 26, .call 115 [.t 24, .t 25], none⟩, 
                  ⟨none, .store 2 (.t 6) (.t 26), none⟩] false)
              (.skip)))
          (.ops [⟨some 27, .load true 2 (.t 5), none⟩, 
              ⟨some 28, .load true 2 (.t 5), none⟩, 
              ⟨some 29, .call 115 [.t 27, .t 28], none⟩, 
              ⟨none, .store 2 (.t 5) (.t 29), none⟩] false)))
      (.ops [⟨some 19, .move (.t 7), none⟩, 
          ⟨some 20, .bin .quo (.t 19) (.c (.int .u64 2)), none⟩, 
          ⟨some 7, .move (.t 20), none⟩] false))
def F114 : AF :=
  { ntmps := 31, results := [.cell 4 true 2], pure := true, body :=
    .seq
      (.ops [⟨some 4, .alloc 128 [.int .i64 0, .int .u64 0], none⟩] false)
      (.seq
        (.ops [⟨some 8, .move (.t 0), none⟩, 
            ⟨some 9, .call 116 [.t 8], none⟩, 
            ⟨some 5, .alloc 128 [.int .i64 0, .int .u64 0], none⟩, 
            ⟨none, .store 2 (.t 5) (.t 9), none⟩] false)
        (.seq
          (.seq
            (.ops [⟨some 10, .move (.t 1), none⟩, 
                ⟨some 11, .bin .lss (.t 10) (.c (.int .i64 0)), none⟩] false)
            (.cond (.t 11)
              (.ops [⟨some 12, .load true 2 (.t 5), none⟩, 
                  ⟨some 13, .call 125 [.t 12], none⟩, 
                  ⟨none, .store 2 (.t 5) (.t 13), none⟩] false)
              (.skip)))
          (.seq
            (.ops [⟨some 14, .build [.int .i64 0, .int .u64 0] [], none⟩, 
                ⟨some 6, .alloc 128 [.int .i64 0, .int .u64 0], none⟩, 
                ⟨none, .store 2 (.t 6) (.t 14), none⟩] false)
            (.seq
              (.seq
                (.ops [⟨some 15, .move (.t 1), none⟩, 
                    ⟨some 16, .call 126 [.t 15], none⟩, 
                    ⟨some 7, .move (.t 16), none⟩] false)
                (.block 0
                  (.loop L114_0)))
              (.seq
                (.ops [⟨some 30, .load true 2 (.t 6), none⟩, 
                    ⟨none, .store 2 (.t 4) (.t 30), none⟩] false)
                (.ret)))))) }

/- sequitur/sequiturref01.Plus -/
def F115 : AF :=
  { ntmps := 26, results := [.cell 4 true 2], pure := true, body :=
    .seq
      (.ops [⟨some 2, .box 128 (.t 0), none⟩, 
          ⟨some 3, .box 128 (.t 1), none⟩, 
          ⟨some 4, .alloc 128 [.int .i64 0, .int .u64 0], none⟩] false)
      (.seq
        (.ops [⟨some 7, .fieldA 1 (.t 2), none⟩, 
            ⟨some 8, .load false 1 (.t 7), none⟩, 
            ⟨some 9, .fieldA 1 (.t 3), none⟩, 
            ⟨some 10, .load false 1 (.t 9), none⟩, 
            ⟨some 11, .bin .add (.t 8) (.t 10), none⟩, 
            ⟨some 5, .move (.t 11), none⟩] false)
        (.seq
          (.ops [⟨some 12, .fieldA 0 (.t 2), none⟩, 
              ⟨some 13, .load false 1 (.t 12), none⟩, 
              ⟨some 14, .fieldA 0 (.t 3), none⟩, 
              ⟨some 15, .load false 1 (.t 14), none⟩, 
              ⟨some 16, .bin .add (.t 13) (.t 15), none⟩, 
              ⟨some 6, .move (.t 16), none⟩] false)
          (.seq
            (.seq
              (.ops [⟨some 17, .move (.t 5), none⟩, 
                  ⟨some 18, .fieldA 1 (.t 2), none⟩, 
                  ⟨some 19, .load false 1 (.t 18), none⟩, 
                  ⟨some 20, .bin .lss (.t 17) (.t 19), none⟩] false)
              (.cond (.t 20)
                (.ops [⟨some 21, .move (.t 6), none⟩, 
                    ⟨some 22, .bin .add (.t 21) (.c (.int .i64 1)), none⟩, 
                    ⟨some 6, .move (.t 22), none⟩] false)
                (.skip)))
            (.seq
              (.ops [⟨some 23, .move (.t 6), none⟩, 
                  ⟨some 24, .move (.t 5), none⟩, 
                  ⟨some 25, .build [.int .i64 0, .int .u64 0] [(0, 1, .t 23), (1, 1, .t 24)], none⟩, 
                  ⟨none, .store 2 (.t 4) (.t 25), none⟩] false)
              (.ret))))) }

/- sequitur/sequiturref01.Of -/
def F116 : AF :=
  { ntmps := 11, results := [.cell 2 true 2], pure := true, body :=
    .seq
      (.ops [⟨some 2, .alloc 128 [.int .i64 0, .int .u64 0], none⟩] false)
      (.seq
        (.seq
          (.ops [⟨some 3, .move (.t 0), none⟩, 
              ⟨some 4, .bin .lss (.t 3) (.c (.int .i64 0)), none⟩] false)
          (.cond (.t 4)
            (.seq
              (.ops [⟨some 5, .move (.t 0), none⟩, 
                  ⟨some 6, .conv .u64 (.t 5), none⟩, 
                  ⟨some 7, .build [.int .i64 0, .int .u64 0] [(0, 1, .c (.int .i64 (-1))), (1, 1, .t 6)], none⟩, 
                  ⟨none, .store 2 (.t 2) (.t 7), none⟩] false)
              (.ret))
            (.skip)))
        (.seq
          (.ops [⟨some 8, .move (.t 0), none⟩, 
              ⟨some 9, .conv .u64 (.t 8), none⟩, 
              ⟨some 10, .build [.int .i64 0, .int .u64 0] [(0, 1, .c (.int .i64 0)), (1, 1, .t 9)], none⟩, 
              ⟨none, .store 2 (.t 2) (.t 10), none⟩] false)
          (.ret))) }

/- sequitur/sequiturref01.Fits -/
def F117 : AF :=
  { ntmps := 25, results := [.tmp 2, .tmp 3], pure := true, body :=
    .seq
      (.ops [⟨some 1, .box 128 (.t 0), none⟩, 
          ⟨some 2, .move (.c (.int .i64 0)), none⟩, 
          ⟨some 3, .move (.c (.bool false)), none⟩] false)
      (.seq
        (.ops [⟨some 5, .fieldA 1 (.t 1), none⟩, 
            ⟨some 6, .load false 1 (.t 5), none⟩, 
            ⟨some 7, .conv .i64 (.t 6), none⟩, 
            ⟨some 4, .move (.t 7), none⟩] false)
        (.seq
          (.seq
            (.ops [⟨some 8, .fieldA 0 (.t 1), none⟩, 
                ⟨some 9, .load false 1 (.t 8), none⟩, 
                ⟨some 10, .bin .eql (.t 9) (.c (.int .i64 0)), none⟩, 
                ⟨some 11, .move (.t 10), none⟩, 
                ⟨some 12, .move (.t 4), some (11, true)⟩, 
                ⟨some 13, .bin .geq (.t 12) (.c (.int .i64 0)), some (11, true)⟩, 
                ⟨some 14, .pick (.t 11) (.t 13) (.c (.bool false)), none⟩, 
                ⟨some 15, .move (.t 14), none⟩, 
                ⟨some 16, .fieldA 0 (.t 1), some (15, false)⟩, 
                ⟨some 17, .load false 1 (.t 16), some (15, false)⟩, 
                ⟨some 18, .bin .eql (.t 17) (.c (.int .i64 (-1))), some (15, false)⟩, 
                ⟨some 19, .move (.t 18), some (15, false)⟩, 
                ⟨some 20, .move (.t 4), some (19, true)⟩, 
                ⟨some 21, .bin .lss (.t 20) (.c (.int .i64 0)), some (19, true)⟩, 
                ⟨some 22, .pick (.t 19) (.t 21) (.c (.bool false)), some (15, false)⟩, 
                ⟨some 23, .pick (.t 15) (.c (.bool true)) (.t 22), none⟩] false)
            (.cond (.t 23)
              (.seq
                (.ops [⟨some 24, .move (.t 4), none⟩, 
                    ⟨some 2, .move (.t 24), none⟩, 
                    ⟨some 3, .move (.c (.bool true)), none⟩] false)
                (.ret))
              (.skip)))
          (.seq
            (.ops [⟨some 2, .move (.c (.int .i64 0)), none⟩, 
                ⟨some 3, .move (.c (.bool false)), none⟩] false)
            (.ret)))) }

/- sequitur/sequiturref01.Div -/
def F118 : AF :=
  { ntmps := 32, results := [.tmp 4, .tmp 5], pure := true, body :=
    .seq
      (.ops [⟨some 4, .move (.c (.int .i64 0)), none⟩, 
          ⟨some 5, .move (.c (.bool false)), none⟩] false)
      (.seq
        (.seq
          (.ops [⟨some 7, .move (.t 1), none⟩, 
              ⟨some 8, .bin .eql (.t 7) (.c (.int .i64 0)), none⟩] false)
          (.cond (.t 8)
            (.seq
              (.ops [⟨some 4, .move (.c (.int .i64 0)), none⟩, 
                  ⟨some 5, .move (.c (.bool false)), none⟩] false)
              (.ret))
            (.skip)))
        (.seq
          (.seq
            (.ops [⟨some 9, .move (.t 1), none⟩, 
                ⟨some 10, .bin .eql (.t 9) (.c (.int .i64 (-1))), none⟩] false)
            (.cond (.t 10)
              (.seq
                (.ops [⟨some 11, .move (.t 0), none⟩, 
                    ⟨some 12, .call 127 [.t 11], none⟩, 
                    ⟨some 13, .extract (.t 12) 0, none⟩, 
                    ⟨some 14, .extract (.t 12) 1, none⟩, 
                    ⟨some 4, .move (.t 13), none⟩, 
                    ⟨some 5, .move (.t 14), none⟩] false)
                (.ret))
              (.skip)))
          (.seq
            (.ops [⟨some 15, .move (.t 0), none⟩, 
                ⟨some 16, .move (.t 1), none⟩, 
                ⟨some 17, .bin .quo (.t 15) (.t 16), none⟩, 
                ⟨some 6, .move (.t 17), none⟩] false)
            (.seq
              (.seq
                (.ops [⟨some 18, .move (.t 0), none⟩, 
                    ⟨some 19, .move (.t 1), none⟩, 
                    ⟨some 20, .bin .rem (.t 18) (.t 19), none⟩, 
                    ⟨some 21, .bin .neq (.t 20) (.c (.int .i64 0)), none⟩, 
                    ⟨some 22, .move (.t 21), none⟩, 
                    ⟨some 23, .move (.t 0), some (22, true)⟩, 
                    ⟨some 24, .bin .lss (.t 23) (.c (.int .i64 0)), some (22, true)⟩, 
                    ⟨some 25, .move (.t 1), some (22, true)⟩, 
                    ⟨some 26, .bin .lss (.t 25) (.c (.int .i64 0)), some (22, true)⟩, 
                    ⟨some 27, .beq true (.t 24) (.t 26), some (22, true)⟩, 
                    ⟨some 28, .pick (.t 22) (.t 27) (.c (.bool false)), none⟩] false)
                (.cond (.t 28)
                  (.ops [⟨some 29, .move (.t 6), none⟩, 
                      ⟨some 30, .bin .sub (.t 29) (.c (.int .i64 1)), none⟩, 
                      ⟨some 6, .move (.t 30), none⟩] false)
                  (.skip)))
              (.seq
                (.ops [⟨some 31, .move (.t 6), none⟩, 
                    ⟨some 4, .move (.t 31), none⟩, 
                    ⟨some 5, .move (.c (.bool true)), none⟩] false)
                (.ret)))))) }

/- sequitur/sequiturref01.Mod -/
def F119 : AF :=
  { ntmps := 27, results := [.tmp 4, .tmp 5], pure := true, body :=
    .seq
      (.ops [⟨some 4, .move (.c (.int .i64 0)), none⟩, 
          ⟨some 5, .move (.c (.bool false)), none⟩] false)
      (.seq
        (.seq
          (.ops [⟨some 7, .move (.t 1), none⟩, 
              ⟨some 8, .bin .eql (.t 7) (.c (.int .i64 0)), none⟩] false)
          (.cond (.t 8)
            (.seq
              (.ops [⟨some 4, .move (.c (.int .i64 0)), none⟩, 
                  ⟨some 5, .move (.c (.bool false)), none⟩] false)
              (.ret))
            (.skip)))
        (.seq
          (.seq
            (.ops [⟨some 9, .move (.t 1), none⟩, 
                ⟨some 10, .bin .eql (.t 9) (.c (.int .i64 (-1))), none⟩] false)
            (.cond (.t 10)
              (.seq
                (.ops [⟨some 4, .move (.c (.int .i64 0)), none⟩, 
                    ⟨some 5, .move (.c (.bool true)), none⟩] false)
                (.ret))
              (.skip)))
          (.seq
            (.ops [⟨some 11, .move (.t 0), none⟩, 
                ⟨some 12, .move (.t 1), none⟩, 
                ⟨some 13, .bin .rem (.t 11) (.t 12), none⟩, 
                ⟨some 6, .move (.t 13), none⟩] false)
            (.seq
              (.seq
                (.ops [⟨some 14, .move (.t 6), none⟩, 
                    ⟨some 15, .bin .neq (.t 14) (.c (.int .i64 0)), none⟩, 
                    ⟨some 16, .move (.t 15), none⟩, 
                    ⟨some 17, .move (.t 6), some (16, true)⟩, 
                    ⟨some 18, .bin .lss (.t 17) (.c (.int .i64 0)), some (16, true)⟩, 
                    ⟨some 19, .move (.t 1), some (16, true)⟩, 
                    ⟨some 20, .bin .lss (.t 19) (.c (.int .i64 0)), some (16, true)⟩, 
                    ⟨some 21, .beq true (.t 18) (.t 20), some (16, true)⟩, 
                    ⟨some 22, .pick (.t 16) (.t 21) (.c (.bool false)), none⟩] false)
                (.cond (.t 22)
                  (.ops [⟨some 23, .move (.t 6), none⟩, 
                      ⟨some 24, .move (.t 1), none⟩, 
                      ⟨some 25, .bin .add (.t 23) (.t 24), none⟩, 
                      ⟨some 6, .move (.t 25), none⟩] false)
                  (.skip)))
              (.seq
                (.ops [⟨some 26, .move (.t 6), none⟩, 
                    ⟨some 4, .move (.t 26), none⟩, 
                    ⟨some 5, .move (.c (.bool true)), none⟩] false)
                (.ret)))))) }

/- slices.IndexFunc[[]sequitur/api.Lin,sequitur/api.Lin] -/
def L120_0 : AC :=
  .seq
    (.ops [⟨some 9, .bin .lss (.t 8) (.t 7), none⟩] false)
    (.seq
      (.cond (.t 9)
        (.skip)
        (.exit 0))
      (.seq
        (.block 1
          (.seq
            (.ops [⟨some 10, .move (.t 8), none⟩, 
                ⟨some 5, .move (.t 10), none⟩] false)
            (.seq
              (.ops [⟨some 11, .move (.t 1), none⟩, 
                  ⟨some 12, .move (.t 0), none⟩, 
                  ⟨some 13, .move (.t 5), none⟩, 
                  ⟨some 14, .idxA 2 (.t 12) (.t 13), none⟩, 
                  ⟨some 15, .load true 2 (.t 14), none⟩, 
                  ⟨some 16, .callv (.t 11) [.t 15], none⟩] false)
              (.cond (.t 16)
                (.seq
                  (.ops [⟨some 17, .move (.t 5), none⟩, 
                      ⟨some 4, .move (.t 17), none⟩] false)
                  (.ret))
                (.skip)))))
        (.ops [⟨some 18, .bin .add (.t 8) (.c (.int .i64 1)), none⟩, 
            ⟨some 8, .move (.t 18), none⟩] false)))
def F120 : AF :=
  { ntmps := 19, results := [.tmp 4], pure := true, body :=
    .seq
      (.ops [⟨some 4, .move (.c (.int .i64 0)), none⟩] false)
      (.seq
        (.seq
          (.ops [⟨some 6, .move (.t 0), none⟩, 
              ⟨some 7, .len (.t 6), none⟩, 
              ⟨some 8, .move (.c (.int .i64 0)), none⟩] false)
          (.block 0
            (.loop L120_0)))
        (.seq
          (.ops [⟨some 4, .move (.c (.int .i64 (-1))), none⟩] false)
          (.ret))) }

/- math/bits.Mul64 -/
def F121 : AF :=
  { ntmps := 51, results := [.tmp 4, .tmp 5], pure := true, body :=
    .seq
      (.ops [⟨some 4, .move (.c (.int .u64 0)), none⟩, 
          ⟨some 5, .move (.c (.int .u64 0)), none⟩] false)
      (.seq
        (.ops [⟨some 14, .move (.t 0), none⟩, 
            ⟨some 15, .bin .and (.t 14) (.c (.int .u64 4294967295)), none⟩, 
            ⟨some 6, .move (.t 15), none⟩] false)
        (.seq
          (.ops [⟨some 16, .move (.t 0), none⟩, 
              ⟨some 17, .sh false (.t 16) (.c (.int .u64 32)), none⟩, 
              ⟨some 7, .move (.t 17), none⟩] false)
          (.seq
            (.ops [⟨some 18, .move (.t 1), none⟩, 
                ⟨some 19, .bin .and (.t 18) (.c (.int .u64 4294967295)), none⟩, 
                ⟨some 8, .move (.t 19), none⟩] false)
            (.seq
              (.ops [⟨some 20, .move (.t 1), none⟩, 
                  ⟨some 21, .sh false (.t 20) (.c (.int .u64 32)), none⟩, 
                  ⟨some 9, .move (.t 21), none⟩] false)
              (.seq
                (.ops [⟨some 22, .move (.t 6), none⟩, 
                    ⟨some 23, .move (.t 8), none⟩, 
                    ⟨some 24, .bin .mul (.t 22) (.t 23), none⟩, 
                    ⟨some 10, .move (.t 24), none⟩] false)
                (.seq
                  (.ops [⟨some 25, .move (.t 7), none⟩, 
                      ⟨some 26, .move (.t 8), none⟩, 
                      ⟨some 27, .bin .mul (.t 25) (.t 26), none⟩, 
                      ⟨some 28, .move (.t 10), none⟩, 
                      ⟨some 29, .sh false (.t 28) (.c (.int .u64 32)), none⟩, 
                      ⟨some 30, .bin .add (.t 27) (.t 29), none⟩, 
                      ⟨some 11, .move (.t 30), none⟩] false)
                  (.seq
                    (.ops [⟨some 31, .move (.t 11), none⟩, 
                        ⟨some 32, .bin .and (.t 31) (.c (.int .u64 4294967295)), none⟩, 
                        ⟨some 12, .move (.t 32), none⟩] false)
                    (.seq
                      (.ops [⟨some 33, .move (.t 11), none⟩, 
                          ⟨some 34, .sh false (.t 33) (.c (.int .u64 32)), none⟩, 
                          ⟨some 13, .move (.t 34), none⟩] false)
                      (.seq
                        (.ops [⟨some 35, .move (.t 12), none⟩, 
                            ⟨some 36, .move (.t 6), none⟩, 
                            ⟨some 37, .move (.t 9), none⟩, 
                            ⟨some 38, .bin .mul (.t 36) (.t 37), none⟩, 
                            ⟨some 39, .bin .add (.t 35) (.t 38), none⟩, 
                            ⟨some 12, .move (.t 39), none⟩] false)
                        (.seq
                          (.ops [⟨some 40, .move (.t 7), none⟩, 
                              ⟨some 41, .move (.t 9), none⟩, 
                              ⟨some 42, .bin .mul (.t 40) (.t 41), none⟩, 
                              ⟨some 43, .move (.t 13), none⟩, 
                              ⟨some 44, .bin .add (.t 42) (.t 43), none⟩, 
                              ⟨some 45, .move (.t 12), none⟩, 
                              ⟨some 46, .sh false (.t 45) (.c (.int .u64 32)), none⟩, 
                              ⟨some 47, .bin .add (.t 44) (.t 46), none⟩, 
                              ⟨some 4, .move (.t 47), none⟩] false)
                          (.seq
                            (.ops [⟨some 48, .move (.t 0), none⟩, 
                                ⟨some 49, .move (.t 1), none⟩, 
                                ⟨some 50, .bin .mul (.t 48) (.t 49), none⟩, 
                                ⟨some 5, .move (.t 50), none⟩] false)
                            (.ret)))))))))))) }

/- slices.IndexFunc[[]int64,int64] -/
def L123_0 : AC :=
  .seq
    (.ops [⟨some 9, .bin .lss (.t 8) (.t 7), none⟩] false)
    (.seq
      (.cond (.t 9)
        (.skip)
        (.exit 0))
      (.seq
        (.block 1
          (.seq
            (.ops [⟨some 10, .move (.t 8), none⟩, 
                ⟨some 5, .move (.t 10), none⟩] false)
            (.seq
              (.ops [⟨some 11, .move (.t 1), none⟩, 
                  ⟨some 12, .move (.t 0), none⟩, 
                  ⟨some 13, .move (.t 5), none⟩, 
                  ⟨some 14, .idxA 1 (.t 12) (.t 13), none⟩, 
                  ⟨some 15, .load false 1 (.t 14), none⟩, 
                  ⟨some 16, .callv (.t 11) [.t 15], none⟩] false)
              (.cond (.t 16)
                (.seq
                  (.ops [⟨some 17, .move (.t 5), none⟩, 
                      ⟨some 4, .move (.t 17), none⟩] false)
                  (.ret))
                (.skip)))))
        (.ops [⟨some 18, .bin .add (.t 8) (.c (.int .i64 1)), none⟩, 
            ⟨some 8, .move (.t 18), none⟩] false)))
def F123 : AF :=
  { ntmps := 19, results := [.tmp 4], pure := true, body :=
    .seq
      (.ops [⟨some 4, .move (.c (.int .i64 0)), none⟩] false)
      (.seq
        (.seq
          (.ops [⟨some 6, .move (.t 0), none⟩, 
              ⟨some 7, .len (.t 6), none⟩, 
              ⟨some 8, .move (.c (.int .i64 0)), none⟩] false)
          (.block 0
            (.loop L123_0)))
        (.seq
          (.ops [⟨some 4, .move (.c (.int .i64 (-1))), none⟩] false)
          (.ret))) }

/- sequitur/num.over -/
def F124 : AF :=
  { ntmps := 15, results := [.tmp 4], pure := true, body :=
    .seq
      (.ops [⟨some 4, .move (.c (.bool false)), none⟩] false)
      (.seq
        (.ops [⟨some 5, .move (.t 1), none⟩, 
            ⟨some 6, .bin .eql (.t 5) (.c (.int .i64 0)), none⟩, 
            ⟨some 7, .move (.t 6), none⟩, 
            ⟨some 8, .move (.t 0), some (7, false)⟩, 
            ⟨some 9, .bin .eql (.t 8) (.c (.int .i64 (-9223372036854775808))), some (7, false)⟩, 
            ⟨some 10, .move (.t 9), some (7, false)⟩, 
            ⟨some 11, .move (.t 1), some (10, true)⟩, 
            ⟨some 12, .bin .eql (.t 11) (.c (.int .i64 (-1))), some (10, true)⟩, 
            ⟨some 13, .pick (.t 10) (.t 12) (.c (.bool false)), some (7, false)⟩, 
            ⟨some 14, .pick (.t 7) (.c (.bool true)) (.t 13), none⟩, 
            ⟨some 4, .move (.t 14), none⟩] false)
        (.ret)) }

/- sequitur/sequiturref01.Minus -/
def F125 : AF :=
  { ntmps := 12, results := [.cell 2 true 2], pure := true, body :=
    .seq
      (.ops [⟨some 1, .box 128 (.t 0), none⟩, 
          ⟨some 2, .alloc 128 [.int .i64 0, .int .u64 0], none⟩] false)
      (.seq
        (.ops [⟨some 3, .fieldA 0 (.t 1), none⟩, 
            ⟨some 4, .load false 1 (.t 3), none⟩, 
            ⟨some 5, .bin .sub (.c (.int .i64 (-1))) (.t 4), none⟩, 
            ⟨some 6, .fieldA 1 (.t 1), none⟩, 
            ⟨some 7, .load false 1 (.t 6), none⟩, 
            ⟨some 8, .com (.t 7), none⟩, 
            ⟨some 9, .build [.int .i64 0, .int .u64 0] [(0, 1, .t 5), (1, 1, .t 8)], none⟩, 
            ⟨some 10, .build [.int .i64 0, .int .u64 0] [(0, 1, .c (.int .i64 0)), (1, 1, .c (.int .u64 1))], none⟩, 
            ⟨some 11, .call 115 [.t 9, .t 10], none⟩, 
            ⟨none, .store 2 (.t 2) (.t 11), none⟩] false)
        (.ret)) }

/- sequitur/sequiturref01.Far -/
def F126 : AF :=
  { ntmps := 10, results := [.tmp 2], pure := true, body :=
    .seq
      (.ops [⟨some 2, .move (.c (.int .u64 0)), none⟩] false)
      (.seq
        (.seq
          (.ops [⟨some 3, .move (.t 0), none⟩, 
              ⟨some 4, .bin .lss (.t 3) (.c (.int .i64 0)), none⟩] false)
          (.cond (.t 4)
            (.seq
              (.ops [⟨some 5, .move (.t 0), none⟩, 
                  ⟨some 6, .conv .u64 (.t 5), none⟩, 
                  ⟨some 7, .neg (.t 6), none⟩, 
                  ⟨some 2, .move (.t 7), none⟩] false)
              (.ret))
            (.skip)))
        (.seq
          (.ops [⟨some 8, .move (.t 0), none⟩, 
              ⟨some 9, .conv .u64 (.t 8), none⟩, 
              ⟨some 2, .move (.t 9), none⟩] false)
          (.ret))) }

/- sequitur/sequiturref01.Neg -/
def F127 : AF :=
  { ntmps := 10, results := [.tmp 2, .tmp 3], pure := true, body :=
    .seq
      (.ops [⟨some 2, .move (.c (.int .i64 0)), none⟩, 
          ⟨some 3, .move (.c (.bool false)), none⟩] false)
      (.seq
        (.ops [⟨some 4, .move (.t 0), none⟩, 
            ⟨some 5, .call 116 [.t 4], none⟩, 
            ⟨some 6, .call 125 [.t 5], none⟩, 
            ⟨some 7, .call 117 [.t 6], none⟩, 
            ⟨some 8, .extract (.t 7) 0, none⟩, 
            ⟨some 9, .extract (.t 7) 1, none⟩, 
            ⟨some 2, .move (.t 8), none⟩, 
            ⟨some 3, .move (.t 9), none⟩] false)
        (.ret)) }

/- sequitur/cuts.walk!i -/
def L1000032_0 : AC :=
  .seq
    (.ops [⟨some 25, .bin .lss (.t 24) (.t 23), none⟩] false)
    (.seq
      (.cond (.t 25)
        (.skip)
        (.exit 0))
      (.seq
        (.block 1
          (.seq
            (.ops [⟨some 26, .move (.t 24), none⟩, 
                ⟨some 27, .idxA 7 (.t 22) (.t 24), none⟩, 
                ⟨some 28, .load true 7 (.t 27), none⟩, 
                ⟨some 10, .alloc 29 [.int .i64 0, .fsl 1 [], .fsl 1 [], .int .i64 0, .int .i64 0, .fsl 2 [], .fsl 7 []], none⟩, 
                ⟨some 9, .move (.t 26), none⟩, 
                ⟨none, .store 7 (.t 10) (.t 28), none⟩] false)
            (.seq
              (.opsV [⟨some 30, .load true 7 (.t 10), none⟩, 
                  ⟨some 31, .move (.t 1), none⟩, 
                  ⟨some 32, .move (.t 1), none⟩, 
                  ⟨some 33, .len (.t 32), none⟩, 
                  ⟨some 34, .move (.t 1), none⟩, 
                  ⟨some 35, .len (.t 34), none⟩, 
                  ⟨some 36, .slice 1 (.t 31) none (some (.t 33)) (some (.t 35)), none⟩, 
                  ⟨some 37, .move (.t 9), none⟩, 
                  ⟨some 38, .buildSl 1 [.int .i64 0] 1 [(0, .t 37)], none⟩, 
                  ⟨some 39, .append 3 1 8 (.t 36) (.t 38), none⟩, 
                  ⟨some 40, .move (.t 2), none⟩, 
                  ⟨some 41, .call 1000032 [.t 30, .t 39, .t 40], none⟩, 
                  ⟨some 29, .move (.t 41), none⟩, 
                  ⟨some 42, .extract (.t 29) 0, none⟩, 
                  ⟨some 43, .extract (.t 29) 1, none⟩, 
                  ⟨some 11, .move (.t 42), none⟩, 
                  ⟨some 12, .move (.t 43), none⟩])
              (.seq
                (.ops [⟨some 44, .move (.t 12), none⟩, 
                    ⟨some 45, .bin .neq (.t 44) (.c (.int .i64 0)), none⟩] false)
                (.cond (.t 45)
                  (.seq
                    (.ops [⟨some 46, .move (.t 11), none⟩, 
                        ⟨some 47, .move (.t 12), none⟩, 
                        ⟨some 6, .move (.t 46), none⟩, 
                        ⟨some 7, .move (.t 47), none⟩] false)
                    (.ret))
                  (.skip))))))
        (.ops [⟨some 48, .bin .add (.t 24) (.c (.int .i64 1)), none⟩, 
            ⟨some 24, .move (.t 48), none⟩] false)))
def F1000032 : AF :=
  { ntmps := 49, results := [.tmp 6, .tmp 7], pure := false, body :=
    .seq
      (.ops [⟨some 3, .box 29 (.t 0), none⟩, 
          ⟨some 6, .move (.c (.fsl 1 [])), none⟩, 
          ⟨some 7, .move (.c (.int .i64 0)), none⟩] false)
      (.seq
        (.seq
          (.ops [⟨some 13, .move (.t 2), none⟩, 
              ⟨some 14, .load true 7 (.t 3), none⟩, 
              ⟨some 15, .move (.t 1), none⟩, 
              ⟨some 16, .callv (.t 13) [.t 14, .t 15], none⟩, 
              ⟨some 8, .move (.t 16), none⟩] false)
          (.seq
            (.ops [⟨some 17, .move (.t 8), none⟩, 
                ⟨some 18, .bin .neq (.t 17) (.c (.int .i64 0)), none⟩] false)
            (.cond (.t 18)
              (.seq
                (.ops [⟨some 19, .move (.t 1), none⟩, 
                    ⟨some 20, .move (.t 8), none⟩, 
                    ⟨some 6, .move (.t 19), none⟩, 
                    ⟨some 7, .move (.t 20), none⟩] false)
                (.ret))
              (.skip))))
        (.seq
          (.seq
            (.ops [⟨some 21, .fieldA 6 (.t 3), none⟩, 
                ⟨some 22, .load false 1 (.t 21), none⟩, 
                ⟨some 23, .len (.t 22), none⟩, 
                ⟨some 24, .move (.c (.int .i64 0)), none⟩] false)
            (.block 0
              (.loop L1000032_0)))
          (.seq
            (.ops [⟨some 6, .move (.c (.fsl 1 [])), none⟩, 
                ⟨some 7, .move (.c (.int .i64 0)), none⟩] false)
            (.ret)))) }

def T : Tab
  | 3 => some F3
  | 4 => some F4
  | 5 => some F5
  | 6 => some F6
  | 7 => some F7
  | 8 => some F8
  | 9 => some F9
  | 10 => some F10
  | 11 => some F11
  | 12 => some F12
  | 13 => some F13
  | 14 => some F14
  | 15 => some F15
  | 16 => some F16
  | 17 => some F17
  | 18 => some F18
  | 19 => some F19
  | 20 => some F20
  | 21 => some F21
  | 22 => some F22
  | 23 => some F23
  | 24 => some F24
  | 25 => some F25
  | 26 => some F26
  | 27 => some F27
  | 28 => some F28
  | 29 => some F29
  | 30 => some F30
  | 31 => some F31
  | 32 => some F32
  | 33 => some F33
  | 34 => some F34
  | 35 => some F35
  | 36 => some F36
  | 37 => some F37
  | 38 => some F38
  | 39 => some F39
  | 40 => some F40
  | 43 => some F43
  | 46 => some F46
  | 47 => some F47
  | 48 => some F48
  | 49 => some F49
  | 50 => some F50
  | 53 => some F53
  | 54 => some F54
  | 55 => some F55
  | 56 => some F56
  | 57 => some F57
  | 58 => some F58
  | 59 => some F59
  | 60 => some F60
  | 61 => some F61
  | 62 => some F62
  | 63 => some F63
  | 64 => some F64
  | 67 => some F67
  | 68 => some F68
  | 69 => some F69
  | 70 => some F70
  | 71 => some F71
  | 72 => some F72
  | 73 => some F73
  | 74 => some F74
  | 75 => some F75
  | 76 => some F76
  | 88 => some F88
  | 89 => some F89
  | 90 => some F90
  | 91 => some F91
  | 92 => some F92
  | 93 => some F93
  | 94 => some F94
  | 95 => some F95
  | 96 => some F96
  | 97 => some F97
  | 98 => some F98
  | 99 => some F99
  | 100 => some F100
  | 101 => some F101
  | 103 => some F103
  | 110 => some F110
  | 111 => some F111
  | 112 => some F112
  | 113 => some F113
  | 114 => some F114
  | 115 => some F115
  | 116 => some F116
  | 117 => some F117
  | 118 => some F118
  | 119 => some F119
  | 120 => some F120
  | 121 => some F121
  | 123 => some F123
  | 124 => some F124
  | 125 => some F125
  | 126 => some F126
  | 127 => some F127
  | 1000032 => some F1000032
  | _ => none

end Go.Proofs.Ytgabnhmjlhhojaa.A
