/- The functions that the seat reaches, in the interpreter's own code (by gen.py from the loaded program; checked against it in the text behind). -/
import Derived.Test.YtkecobdhgabknaaDoorAbs
namespace Go.Proofs.YtkecobdhgabknaaDoor.A
open Go

/- sequitur/sequiturlaw38.ProofOpen -/
def L5_0 : AC :=
  .seq
    (.ops [⟨some 36, .bin .lss (.t 35) (.t 34), none⟩] false)
    (.seq
      (.cond (.t 36)
        (.skip)
        (.exit 0))
      (.seq
        (.block 1
          (.seq
            (.ops [⟨some 37, .idxA 1 (.t 33) (.t 35), none⟩, 
                ⟨some 38, .load false 1 (.t 37), none⟩, 
                ⟨some 9, .move (.t 38), none⟩] false)
            (.seq
              (.ops [⟨some 40, .load true 24 (.t 3), none⟩, 
                  ⟨some 41, .move (.t 9), none⟩, 
                  ⟨some 42, .call 24 [.t 40, .t 41], none⟩, 
                  ⟨some 39, .move (.t 42), none⟩, 
                  ⟨some 43, .extract (.t 39) 0, none⟩, 
                  ⟨some 44, .extract (.t 39) 1, none⟩, 
                  ⟨some 10, .alloc 42 [.int .i64 0, .str ⟨#[]⟩, .str ⟨#[]⟩, .str ⟨#[]⟩, .bool false, .int .i64 0, .str ⟨#[]⟩, .int .i64 0, .fsl 4 [], .int .i64 0, .str ⟨#[]⟩, .str ⟨#[]⟩, .fsl 4 [], .fsl 5 [], .fsl 8 [], .fsl 2 [], .int .i64 0, .fsl 1 [], .fsl 1 [], .int .i64 0, .int .i64 0, .fsl 2 [], .fsl 7 [], .fsl 24 []], none⟩, 
                  ⟨none, .store 24 (.t 10) (.t 43), none⟩, 
                  ⟨some 11, .move (.t 44), none⟩] false)
              (.seq
                (.ops [⟨some 45, .move (.t 11), none⟩, 
                    ⟨some 46, .not (.t 45), none⟩, 
                    ⟨some 47, .move (.t 46), none⟩, 
                    ⟨some 48, .fieldA 0 (.t 10), some (47, false)⟩, 
                    ⟨some 49, .load false 1 (.t 48), some (47, false)⟩, 
                    ⟨some 50, .bin .neq (.t 49) (.c (.int .i64 0)), some (47, false)⟩, 
                    ⟨some 51, .pick (.t 47) (.c (.bool true)) (.t 50), none⟩] false)
                (.cond (.t 51)
                  (.seq
                    (.ops [⟨some 6, .move (.c (.bool false)), none⟩] false)
                    (.ret))
                  (.skip))))))
        (.ops [⟨some 52, .bin .add (.t 35) (.c (.int .i64 1)), none⟩, 
            ⟨some 35, .move (.t 52), none⟩] false)))
def F5 : AF :=
  { ntmps := 95, results := [.tmp 6], pure := true, body :=
    .seq
      (.ops [⟨some 3, .box 42 (.t 0), none⟩, 
          ⟨some 4, .box 42 (.t 1), none⟩, 
          ⟨some 6, .move (.c (.bool false)), none⟩] false)
      (.seq
        (.seq
          (.ops [⟨some 17, .load true 24 (.t 3), none⟩, 
              ⟨some 18, .call 8 [.t 17, .c (.int .i64 1000)], none⟩, 
              ⟨some 19, .not (.t 18), none⟩, 
              ⟨some 20, .move (.t 19), none⟩, 
              ⟨some 21, .load true 24 (.t 4), some (20, false)⟩, 
              ⟨some 22, .call 8 [.t 21, .c (.int .i64 1000)], some (20, false)⟩, 
              ⟨some 23, .not (.t 22), some (20, false)⟩, 
              ⟨some 24, .pick (.t 20) (.c (.bool true)) (.t 23), none⟩] false)
          (.cond (.t 24)
            (.seq
              (.ops [⟨some 25, .call 9 [], none⟩, 
                  ⟨some 6, .move (.t 25), none⟩] false)
              (.ret))
            (.skip)))
        (.seq
          (.ops [⟨some 26, .load true 24 (.t 3), none⟩, 
              ⟨some 27, .call 22 [.t 26], none⟩, 
              ⟨some 7, .move (.t 27), none⟩] false)
          (.seq
            (.seq
              (.ops [⟨some 28, .move (.t 7), none⟩, 
                  ⟨some 29, .len (.t 28), none⟩, 
                  ⟨some 30, .load true 24 (.t 3), none⟩, 
                  ⟨some 31, .call 23 [.t 30, .c (.int .i64 0)], none⟩, 
                  ⟨some 32, .bin .neq (.t 29) (.t 31), none⟩] false)
              (.cond (.t 32)
                (.seq
                  (.ops [⟨some 6, .move (.c (.bool false)), none⟩] false)
                  (.ret))
                (.skip)))
            (.seq
              (.seq
                (.ops [⟨some 33, .move (.t 7), none⟩, 
                    ⟨some 34, .len (.t 33), none⟩, 
                    ⟨some 35, .move (.c (.int .i64 0)), none⟩] false)
                (.block 0
                  (.loop L5_0)))
              (.seq
                (.seq
                  (.ops [⟨some 53, .move (.t 7), none⟩, 
                      ⟨some 54, .len (.t 53), none⟩, 
                      ⟨some 55, .bin .eql (.t 54) (.c (.int .i64 0)), none⟩] false)
                  (.cond (.t 55)
                    (.seq
                      (.ops [⟨some 56, .call 9 [], none⟩, 
                          ⟨some 6, .move (.t 56), none⟩] false)
                      (.ret))
                    (.skip)))
                (.seq
                  (.ops [⟨some 57, .move (.t 7), none⟩, 
                      ⟨some 58, .move (.t 2), none⟩, 
                      ⟨some 59, .move (.t 7), none⟩, 
                      ⟨some 60, .len (.t 59), none⟩, 
                      ⟨some 61, .conv .u64 (.t 60), none⟩, 
                      ⟨some 62, .bin .rem (.t 58) (.t 61), none⟩, 
                      ⟨some 63, .idxA 1 (.t 57) (.t 62), none⟩, 
                      ⟨some 64, .load false 1 (.t 63), none⟩, 
                      ⟨some 12, .move (.t 64), none⟩] false)
                  (.seq
                    (.ops [⟨some 66, .load true 24 (.t 3), none⟩, 
                        ⟨some 67, .move (.t 12), none⟩, 
                        ⟨some 68, .call 24 [.t 66, .t 67], none⟩, 
                        ⟨some 65, .move (.t 68), none⟩, 
                        ⟨some 69, .extract (.t 65) 0, none⟩, 
                        ⟨some 70, .extract (.t 65) 1, none⟩, 
                        ⟨some 13, .alloc 42 [.int .i64 0, .str ⟨#[]⟩, .str ⟨#[]⟩, .str ⟨#[]⟩, .bool false, .int .i64 0, .str ⟨#[]⟩, .int .i64 0, .fsl 4 [], .int .i64 0, .str ⟨#[]⟩, .str ⟨#[]⟩, .fsl 4 [], .fsl 5 [], .fsl 8 [], .fsl 2 [], .int .i64 0, .fsl 1 [], .fsl 1 [], .int .i64 0, .int .i64 0, .fsl 2 [], .fsl 7 [], .fsl 24 []], none⟩, 
                        ⟨none, .store 24 (.t 13) (.t 69), none⟩, 
                        ⟨some 14, .move (.t 70), none⟩] false)
                    (.seq
                      (.ops [⟨some 72, .load true 24 (.t 3), none⟩, 
                          ⟨some 73, .move (.t 12), none⟩, 
                          ⟨some 74, .load true 24 (.t 4), none⟩, 
                          ⟨some 75, .call 25 [.t 72, .t 73, .t 74], none⟩, 
                          ⟨some 71, .move (.t 75), none⟩, 
                          ⟨some 76, .extract (.t 71) 0, none⟩, 
                          ⟨some 77, .extract (.t 71) 1, none⟩, 
                          ⟨some 15, .alloc 42 [.int .i64 0, .str ⟨#[]⟩, .str ⟨#[]⟩, .str ⟨#[]⟩, .bool false, .int .i64 0, .str ⟨#[]⟩, .int .i64 0, .fsl 4 [], .int .i64 0, .str ⟨#[]⟩, .str ⟨#[]⟩, .fsl 4 [], .fsl 5 [], .fsl 8 [], .fsl 2 [], .int .i64 0, .fsl 1 [], .fsl 1 [], .int .i64 0, .int .i64 0, .fsl 2 [], .fsl 7 [], .fsl 24 []], none⟩, 
                          ⟨none, .store 24 (.t 15) (.t 76), none⟩, 
                          ⟨some 16, .move (.t 77), none⟩] false)
                      (.seq
                        (.ops [⟨some 78, .move (.t 16), none⟩, 
                            ⟨some 79, .move (.t 78), none⟩, 
                            ⟨some 80, .load true 24 (.t 15), some (79, true)⟩, 
                            ⟨some 81, .call 23 [.t 80, .c (.int .i64 0)], some (79, true)⟩, 
                            ⟨some 82, .move (.t 7), some (79, true)⟩, 
                            ⟨some 83, .len (.t 82), some (79, true)⟩, 
                            ⟨some 84, .load true 24 (.t 13), some (79, true)⟩, 
                            ⟨some 85, .call 23 [.t 84, .c (.int .i64 0)], some (79, true)⟩, 
                            ⟨some 86, .bin .sub (.t 83) (.t 85), some (79, true)⟩, 
                            ⟨some 87, .load true 24 (.t 4), some (79, true)⟩, 
                            ⟨some 88, .call 23 [.t 87, .c (.int .i64 0)], some (79, true)⟩, 
                            ⟨some 89, .bin .add (.t 86) (.t 88), some (79, true)⟩, 
                            ⟨some 90, .bin .eql (.t 81) (.t 89), some (79, true)⟩, 
                            ⟨some 91, .pick (.t 79) (.t 90) (.c (.bool false)), none⟩, 
                            ⟨some 92, .move (.t 91), none⟩, 
                            ⟨some 93, .call 9 [], some (92, true)⟩, 
                            ⟨some 94, .pick (.t 92) (.t 93) (.c (.bool false)), none⟩, 
                            ⟨some 6, .move (.t 94), none⟩] true)
                        (.ret)))))))))) }

/- sequitur/sequiturlaw38.ProofPuts -/
def F6 : AF :=
  { ntmps := 64, results := [.tmp 6], pure := true, body :=
    .seq
      (.ops [⟨some 3, .box 42 (.t 0), none⟩, 
          ⟨some 4, .box 42 (.t 1), none⟩, 
          ⟨some 6, .move (.c (.bool false)), none⟩] false)
      (.seq
        (.seq
          (.ops [⟨some 11, .load true 24 (.t 3), none⟩, 
              ⟨some 12, .call 8 [.t 11, .c (.int .i64 2000)], none⟩, 
              ⟨some 13, .not (.t 12), none⟩, 
              ⟨some 14, .move (.t 13), none⟩, 
              ⟨some 15, .load true 24 (.t 4), some (14, false)⟩, 
              ⟨some 16, .call 8 [.t 15, .c (.int .i64 2000)], some (14, false)⟩, 
              ⟨some 17, .not (.t 16), some (14, false)⟩, 
              ⟨some 18, .pick (.t 14) (.c (.bool true)) (.t 17), none⟩, 
              ⟨some 19, .move (.t 18), none⟩, 
              ⟨some 20, .move (.t 2), some (19, false)⟩, 
              ⟨some 21, .len (.t 20), some (19, false)⟩, 
              ⟨some 22, .bin .gtr (.t 21) (.c (.int .i64 100)), some (19, false)⟩, 
              ⟨some 23, .pick (.t 19) (.c (.bool true)) (.t 22), none⟩] false)
          (.cond (.t 23)
            (.seq
              (.ops [⟨some 24, .call 9 [], none⟩, 
                  ⟨some 6, .move (.t 24), none⟩] false)
              (.ret))
            (.skip)))
        (.seq
          (.ops [⟨some 26, .load true 24 (.t 3), none⟩, 
              ⟨some 27, .move (.t 2), none⟩, 
              ⟨some 28, .load true 24 (.t 4), none⟩, 
              ⟨some 29, .call 25 [.t 26, .t 27, .t 28], none⟩, 
              ⟨some 25, .move (.t 29), none⟩, 
              ⟨some 30, .extract (.t 25) 0, none⟩, 
              ⟨some 31, .extract (.t 25) 1, none⟩, 
              ⟨some 7, .alloc 42 [.int .i64 0, .str ⟨#[]⟩, .str ⟨#[]⟩, .str ⟨#[]⟩, .bool false, .int .i64 0, .str ⟨#[]⟩, .int .i64 0, .fsl 4 [], .int .i64 0, .str ⟨#[]⟩, .str ⟨#[]⟩, .fsl 4 [], .fsl 5 [], .fsl 8 [], .fsl 2 [], .int .i64 0, .fsl 1 [], .fsl 1 [], .int .i64 0, .int .i64 0, .fsl 2 [], .fsl 7 [], .fsl 24 []], none⟩, 
              ⟨none, .store 24 (.t 7) (.t 30), none⟩, 
              ⟨some 8, .move (.t 31), none⟩] false)
          (.seq
            (.ops [⟨some 33, .load true 24 (.t 3), none⟩, 
                ⟨some 34, .move (.t 2), none⟩, 
                ⟨some 35, .load true 24 (.t 4), none⟩, 
                ⟨some 36, .call 26 [.t 33, .t 34, .t 35], none⟩, 
                ⟨some 32, .move (.t 36), none⟩, 
                ⟨some 37, .extract (.t 32) 0, none⟩, 
                ⟨some 38, .extract (.t 32) 1, none⟩, 
                ⟨some 9, .alloc 42 [.int .i64 0, .str ⟨#[]⟩, .str ⟨#[]⟩, .str ⟨#[]⟩, .bool false, .int .i64 0, .str ⟨#[]⟩, .int .i64 0, .fsl 4 [], .int .i64 0, .str ⟨#[]⟩, .str ⟨#[]⟩, .fsl 4 [], .fsl 5 [], .fsl 8 [], .fsl 2 [], .int .i64 0, .fsl 1 [], .fsl 1 [], .int .i64 0, .int .i64 0, .fsl 2 [], .fsl 7 [], .fsl 24 []], none⟩, 
                ⟨none, .store 24 (.t 9) (.t 37), none⟩, 
                ⟨some 10, .move (.t 38), none⟩] false)
            (.seq
              (.ops [⟨some 39, .load true 24 (.t 7), none⟩, 
                  ⟨some 40, .load true 24 (.t 9), none⟩, 
                  ⟨some 41, .call 19 [.t 39, .t 40], none⟩, 
                  ⟨some 42, .move (.t 41), none⟩, 
                  ⟨some 43, .move (.t 8), some (42, true)⟩, 
                  ⟨some 44, .move (.t 10), some (42, true)⟩, 
                  ⟨some 45, .beq false (.t 43) (.t 44), some (42, true)⟩, 
                  ⟨some 46, .pick (.t 42) (.t 45) (.c (.bool false)), none⟩, 
                  ⟨some 47, .move (.t 46), none⟩, 
                  ⟨some 48, .load true 24 (.t 3), some (47, true)⟩, 
                  ⟨some 49, .load true 24 (.t 4), some (47, true)⟩, 
                  ⟨some 50, .call 20 [.t 48, .t 49], some (47, true)⟩, 
                  ⟨some 51, .load true 24 (.t 3), some (47, true)⟩, 
                  ⟨some 52, .load true 24 (.t 4), some (47, true)⟩, 
                  ⟨some 53, .call 27 [.t 51, .t 52], some (47, true)⟩, 
                  ⟨some 54, .beq false (.t 50) (.t 53), some (47, true)⟩, 
                  ⟨some 55, .pick (.t 47) (.t 54) (.c (.bool false)), none⟩, 
                  ⟨some 56, .move (.t 55), none⟩, 
                  ⟨some 57, .load true 24 (.t 3), some (56, true)⟩, 
                  ⟨some 58, .load true 24 (.t 3), some (56, true)⟩, 
                  ⟨some 59, .call 20 [.t 57, .t 58], some (56, true)⟩, 
                  ⟨some 60, .pick (.t 56) (.t 59) (.c (.bool false)), none⟩, 
                  ⟨some 61, .move (.t 60), none⟩, 
                  ⟨some 62, .call 9 [], some (61, true)⟩, 
                  ⟨some 63, .pick (.t 61) (.t 62) (.c (.bool false)), none⟩, 
                  ⟨some 6, .move (.t 63), none⟩] true)
              (.ret))))) }

/- sequitur/sequiturlaw38.ProofStays -/
def F7 : AF :=
  { ntmps := 125, results := [.tmp 8], pure := true, body :=
    .seq
      (.ops [⟨some 4, .box 42 (.t 0), none⟩, 
          ⟨some 5, .box 42 (.t 1), none⟩, 
          ⟨some 8, .move (.c (.bool false)), none⟩] false)
      (.seq
        (.seq
          (.ops [⟨some 21, .load true 24 (.t 4), none⟩, 
              ⟨some 22, .call 8 [.t 21, .c (.int .i64 2000)], none⟩, 
              ⟨some 23, .not (.t 22), none⟩, 
              ⟨some 24, .move (.t 23), none⟩, 
              ⟨some 25, .load true 24 (.t 5), some (24, false)⟩, 
              ⟨some 26, .call 8 [.t 25, .c (.int .i64 2000)], some (24, false)⟩, 
              ⟨some 27, .not (.t 26), some (24, false)⟩, 
              ⟨some 28, .pick (.t 24) (.c (.bool true)) (.t 27), none⟩, 
              ⟨some 29, .move (.t 28), none⟩, 
              ⟨some 30, .move (.t 2), some (29, false)⟩, 
              ⟨some 31, .len (.t 30), some (29, false)⟩, 
              ⟨some 32, .bin .gtr (.t 31) (.c (.int .i64 100)), some (29, false)⟩, 
              ⟨some 33, .pick (.t 29) (.c (.bool true)) (.t 32), none⟩, 
              ⟨some 34, .move (.t 33), none⟩, 
              ⟨some 35, .move (.t 3), some (34, false)⟩, 
              ⟨some 36, .len (.t 35), some (34, false)⟩, 
              ⟨some 37, .bin .gtr (.t 36) (.c (.int .i64 100)), some (34, false)⟩, 
              ⟨some 38, .pick (.t 34) (.c (.bool true)) (.t 37), none⟩] false)
          (.cond (.t 38)
            (.seq
              (.ops [⟨some 39, .call 9 [], none⟩, 
                  ⟨some 8, .move (.t 39), none⟩] false)
              (.ret))
            (.skip)))
        (.seq
          (.ops [⟨some 41, .load true 24 (.t 4), none⟩, 
              ⟨some 42, .move (.t 2), none⟩, 
              ⟨some 43, .call 24 [.t 41, .t 42], none⟩, 
              ⟨some 40, .move (.t 43), none⟩, 
              ⟨some 44, .extract (.t 40) 0, none⟩, 
              ⟨some 45, .extract (.t 40) 1, none⟩, 
              ⟨some 9, .alloc 42 [.int .i64 0, .str ⟨#[]⟩, .str ⟨#[]⟩, .str ⟨#[]⟩, .bool false, .int .i64 0, .str ⟨#[]⟩, .int .i64 0, .fsl 4 [], .int .i64 0, .str ⟨#[]⟩, .str ⟨#[]⟩, .fsl 4 [], .fsl 5 [], .fsl 8 [], .fsl 2 [], .int .i64 0, .fsl 1 [], .fsl 1 [], .int .i64 0, .int .i64 0, .fsl 2 [], .fsl 7 [], .fsl 24 []], none⟩, 
              ⟨none, .store 24 (.t 9) (.t 44), none⟩, 
              ⟨some 10, .move (.t 45), none⟩] false)
          (.seq
            (.ops [⟨some 47, .load true 24 (.t 4), none⟩, 
                ⟨some 48, .move (.t 2), none⟩, 
                ⟨some 49, .load true 24 (.t 5), none⟩, 
                ⟨some 50, .call 25 [.t 47, .t 48, .t 49], none⟩, 
                ⟨some 46, .move (.t 50), none⟩, 
                ⟨some 51, .extract (.t 46) 0, none⟩, 
                ⟨some 52, .extract (.t 46) 1, none⟩, 
                ⟨some 11, .alloc 42 [.int .i64 0, .str ⟨#[]⟩, .str ⟨#[]⟩, .str ⟨#[]⟩, .bool false, .int .i64 0, .str ⟨#[]⟩, .int .i64 0, .fsl 4 [], .int .i64 0, .str ⟨#[]⟩, .str ⟨#[]⟩, .fsl 4 [], .fsl 5 [], .fsl 8 [], .fsl 2 [], .int .i64 0, .fsl 1 [], .fsl 1 [], .int .i64 0, .int .i64 0, .fsl 2 [], .fsl 7 [], .fsl 24 []], none⟩, 
                ⟨none, .store 24 (.t 11) (.t 51), none⟩, 
                ⟨some 12, .move (.t 52), none⟩] false)
            (.seq
              (.seq
                (.ops [⟨some 53, .move (.t 10), none⟩, 
                    ⟨some 54, .move (.t 12), none⟩, 
                    ⟨some 55, .beq true (.t 53) (.t 54), none⟩] false)
                (.cond (.t 55)
                  (.seq
                    (.ops [⟨some 8, .move (.c (.bool false)), none⟩] false)
                    (.ret))
                  (.skip)))
              (.seq
                (.seq
                  (.ops [⟨some 56, .move (.t 10), none⟩, 
                      ⟨some 57, .not (.t 56), none⟩] false)
                  (.cond (.t 57)
                    (.seq
                      (.ops [⟨some 58, .load true 24 (.t 11), none⟩, 
                          ⟨some 59, .build [.int .i64 0, .str ⟨#[]⟩, .str ⟨#[]⟩, .str ⟨#[]⟩, .bool false, .int .i64 0, .str ⟨#[]⟩, .int .i64 0, .fsl 4 [], .int .i64 0, .str ⟨#[]⟩, .str ⟨#[]⟩, .fsl 4 [], .fsl 5 [], .fsl 8 [], .fsl 2 [], .int .i64 0, .fsl 1 [], .fsl 1 [], .int .i64 0, .int .i64 0, .fsl 2 [], .fsl 7 [], .fsl 24 []] [], none⟩, 
                          ⟨some 60, .call 20 [.t 58, .t 59], none⟩, 
                          ⟨some 61, .move (.t 60), none⟩, 
                          ⟨some 62, .load true 24 (.t 9), some (61, true)⟩, 
                          ⟨some 63, .build [.int .i64 0, .str ⟨#[]⟩, .str ⟨#[]⟩, .str ⟨#[]⟩, .bool false, .int .i64 0, .str ⟨#[]⟩, .int .i64 0, .fsl 4 [], .int .i64 0, .str ⟨#[]⟩, .str ⟨#[]⟩, .fsl 4 [], .fsl 5 [], .fsl 8 [], .fsl 2 [], .int .i64 0, .fsl 1 [], .fsl 1 [], .int .i64 0, .int .i64 0, .fsl 2 [], .fsl 7 [], .fsl 24 []] [], some (61, true)⟩, 
                          ⟨some 64, .call 20 [.t 62, .t 63], some (61, true)⟩, 
                          ⟨some 65, .pick (.t 61) (.t 64) (.c (.bool false)), none⟩, 
                          ⟨some 66, .move (.t 65), none⟩, 
                          ⟨some 67, .call 9 [], some (66, true)⟩, 
                          ⟨some 68, .pick (.t 66) (.t 67) (.c (.bool false)), none⟩, 
                          ⟨some 8, .move (.t 68), none⟩] false)
                      (.ret))
                    (.skip)))
                (.seq
                  (.ops [⟨some 70, .load true 24 (.t 11), none⟩, 
                      ⟨some 71, .move (.t 2), none⟩, 
                      ⟨some 72, .call 24 [.t 70, .t 71], none⟩, 
                      ⟨some 69, .move (.t 72), none⟩, 
                      ⟨some 73, .extract (.t 69) 0, none⟩, 
                      ⟨some 74, .extract (.t 69) 1, none⟩, 
                      ⟨some 13, .alloc 42 [.int .i64 0, .str ⟨#[]⟩, .str ⟨#[]⟩, .str ⟨#[]⟩, .bool false, .int .i64 0, .str ⟨#[]⟩, .int .i64 0, .fsl 4 [], .int .i64 0, .str ⟨#[]⟩, .str ⟨#[]⟩, .fsl 4 [], .fsl 5 [], .fsl 8 [], .fsl 2 [], .int .i64 0, .fsl 1 [], .fsl 1 [], .int .i64 0, .int .i64 0, .fsl 2 [], .fsl 7 [], .fsl 24 []], none⟩, 
                      ⟨none, .store 24 (.t 13) (.t 73), none⟩, 
                      ⟨some 14, .move (.t 74), none⟩] false)
                  (.seq
                    (.ops [⟨some 76, .load true 24 (.t 11), none⟩, 
                        ⟨some 77, .move (.t 2), none⟩, 
                        ⟨some 78, .load true 24 (.t 9), none⟩, 
                        ⟨some 79, .call 25 [.t 76, .t 77, .t 78], none⟩, 
                        ⟨some 75, .move (.t 79), none⟩, 
                        ⟨some 80, .extract (.t 75) 0, none⟩, 
                        ⟨some 81, .extract (.t 75) 1, none⟩, 
                        ⟨some 15, .alloc 42 [.int .i64 0, .str ⟨#[]⟩, .str ⟨#[]⟩, .str ⟨#[]⟩, .bool false, .int .i64 0, .str ⟨#[]⟩, .int .i64 0, .fsl 4 [], .int .i64 0, .str ⟨#[]⟩, .str ⟨#[]⟩, .fsl 4 [], .fsl 5 [], .fsl 8 [], .fsl 2 [], .int .i64 0, .fsl 1 [], .fsl 1 [], .int .i64 0, .int .i64 0, .fsl 2 [], .fsl 7 [], .fsl 24 []], none⟩, 
                        ⟨none, .store 24 (.t 15) (.t 80), none⟩, 
                        ⟨some 16, .move (.t 81), none⟩] false)
                    (.seq
                      (.seq
                        (.ops [⟨some 82, .move (.t 14), none⟩, 
                            ⟨some 83, .not (.t 82), none⟩, 
                            ⟨some 84, .move (.t 83), none⟩, 
                            ⟨some 85, .move (.t 16), some (84, false)⟩, 
                            ⟨some 86, .not (.t 85), some (84, false)⟩, 
                            ⟨some 87, .pick (.t 84) (.c (.bool true)) (.t 86), none⟩, 
                            ⟨some 88, .move (.t 87), none⟩, 
                            ⟨some 89, .load true 24 (.t 13), some (88, false)⟩, 
                            ⟨some 90, .load true 24 (.t 5), some (88, false)⟩, 
                            ⟨some 91, .call 19 [.t 89, .t 90], some (88, false)⟩, 
                            ⟨some 92, .not (.t 91), some (88, false)⟩, 
                            ⟨some 93, .pick (.t 88) (.c (.bool true)) (.t 92), none⟩, 
                            ⟨some 94, .move (.t 93), none⟩, 
                            ⟨some 95, .load true 24 (.t 15), some (94, false)⟩, 
                            ⟨some 96, .load true 24 (.t 4), some (94, false)⟩, 
                            ⟨some 97, .call 19 [.t 95, .t 96], some (94, false)⟩, 
                            ⟨some 98, .not (.t 97), some (94, false)⟩, 
                            ⟨some 99, .pick (.t 94) (.c (.bool true)) (.t 98), none⟩] false)
                        (.cond (.t 99)
                          (.seq
                            (.ops [⟨some 8, .move (.c (.bool false)), none⟩] false)
                            (.ret))
                          (.skip)))
                      (.seq
                        (.seq
                          (.ops [⟨some 100, .move (.t 2), none⟩, 
                              ⟨some 101, .move (.t 3), none⟩, 
                              ⟨some 102, .call 28 [.t 100, .t 101], none⟩] false)
                          (.cond (.t 102)
                            (.seq
                              (.ops [⟨some 104, .load true 24 (.t 4), none⟩, 
                                  ⟨some 105, .move (.t 3), none⟩, 
                                  ⟨some 106, .call 24 [.t 104, .t 105], none⟩, 
                                  ⟨some 103, .move (.t 106), none⟩, 
                                  ⟨some 107, .extract (.t 103) 0, none⟩, 
                                  ⟨some 108, .extract (.t 103) 1, none⟩, 
                                  ⟨some 17, .alloc 42 [.int .i64 0, .str ⟨#[]⟩, .str ⟨#[]⟩, .str ⟨#[]⟩, .bool false, .int .i64 0, .str ⟨#[]⟩, .int .i64 0, .fsl 4 [], .int .i64 0, .str ⟨#[]⟩, .str ⟨#[]⟩, .fsl 4 [], .fsl 5 [], .fsl 8 [], .fsl 2 [], .int .i64 0, .fsl 1 [], .fsl 1 [], .int .i64 0, .int .i64 0, .fsl 2 [], .fsl 7 [], .fsl 24 []], none⟩, 
                                  ⟨none, .store 24 (.t 17) (.t 107), none⟩, 
                                  ⟨some 18, .move (.t 108), none⟩] false)
                              (.seq
                                (.ops [⟨some 110, .load true 24 (.t 11), none⟩, 
                                    ⟨some 111, .move (.t 3), none⟩, 
                                    ⟨some 112, .call 24 [.t 110, .t 111], none⟩, 
                                    ⟨some 109, .move (.t 112), none⟩, 
                                    ⟨some 113, .extract (.t 109) 0, none⟩, 
                                    ⟨some 114, .extract (.t 109) 1, none⟩, 
                                    ⟨some 19, .alloc 42 [.int .i64 0, .str ⟨#[]⟩, .str ⟨#[]⟩, .str ⟨#[]⟩, .bool false, .int .i64 0, .str ⟨#[]⟩, .int .i64 0, .fsl 4 [], .int .i64 0, .str ⟨#[]⟩, .str ⟨#[]⟩, .fsl 4 [], .fsl 5 [], .fsl 8 [], .fsl 2 [], .int .i64 0, .fsl 1 [], .fsl 1 [], .int .i64 0, .int .i64 0, .fsl 2 [], .fsl 7 [], .fsl 24 []], none⟩, 
                                    ⟨none, .store 24 (.t 19) (.t 113), none⟩, 
                                    ⟨some 20, .move (.t 114), none⟩] false)
                                (.seq
                                  (.ops [⟨some 115, .move (.t 18), none⟩, 
                                      ⟨some 116, .move (.t 20), none⟩, 
                                      ⟨some 117, .beq true (.t 115) (.t 116), none⟩, 
                                      ⟨some 118, .move (.t 117), none⟩, 
                                      ⟨some 119, .load true 24 (.t 17), some (118, false)⟩, 
                                      ⟨some 120, .load true 24 (.t 19), some (118, false)⟩, 
                                      ⟨some 121, .call 19 [.t 119, .t 120], some (118, false)⟩, 
                                      ⟨some 122, .not (.t 121), some (118, false)⟩, 
                                      ⟨some 123, .pick (.t 118) (.c (.bool true)) (.t 122), none⟩] false)
                                  (.cond (.t 123)
                                    (.seq
                                      (.ops [⟨some 8, .move (.c (.bool false)), none⟩] false)
                                      (.ret))
                                    (.skip)))))
                            (.skip)))
                        (.seq
                          (.ops [⟨some 124, .call 9 [], none⟩, 
                              ⟨some 8, .move (.t 124), none⟩] false)
                          (.ret))))))))))) }

/- sequitur/sequiturlaw38.Few -/
def F8 : AF :=
  { ntmps := 10, results := [.tmp 4], pure := true, body :=
    .seq
      (.ops [⟨some 2, .box 42 (.t 0), none⟩, 
          ⟨some 4, .move (.c (.bool false)), none⟩] false)
      (.seq
        (.ops [⟨some 5, .load true 24 (.t 2), none⟩, 
            ⟨some 6, .move (.t 1), none⟩, 
            ⟨some 7, .call 29 [.t 5, .t 6], none⟩, 
            ⟨some 8, .move (.t 1), none⟩, 
            ⟨some 9, .bin .leq (.t 7) (.t 8), none⟩, 
            ⟨some 4, .move (.t 9), none⟩] false)
        (.ret)) }

/- sequitur/sequiturlaw38.alive -/
def F9 : AF :=
  { ntmps := 54, results := [.tmp 0], pure := true, body :=
    .seq
      (.ops [⟨some 0, .move (.c (.bool false)), none⟩] false)
      (.seq
        (.ops [⟨some 8, .build [.int .i64 0, .str ⟨#[]⟩, .str ⟨#[]⟩, .str ⟨#[]⟩, .bool false, .int .i64 0, .str ⟨#[]⟩, .int .i64 0, .fsl 4 [], .int .i64 0, .str ⟨#[]⟩, .str ⟨#[]⟩, .fsl 4 [], .fsl 5 [], .fsl 8 [], .fsl 2 [], .int .i64 0, .fsl 1 [], .fsl 1 [], .int .i64 0, .int .i64 0, .fsl 2 [], .fsl 7 [], .fsl 24 []] [(0, 1, .c (.int .i64 2))], none⟩, 
            ⟨some 9, .build [.int .i64 0, .str ⟨#[]⟩, .str ⟨#[]⟩, .str ⟨#[]⟩, .bool false, .int .i64 0, .str ⟨#[]⟩, .int .i64 0, .fsl 4 [], .int .i64 0, .str ⟨#[]⟩, .str ⟨#[]⟩, .fsl 4 [], .fsl 5 [], .fsl 8 [], .fsl 2 [], .int .i64 0, .fsl 1 [], .fsl 1 [], .int .i64 0, .int .i64 0, .fsl 2 [], .fsl 7 [], .fsl 24 []] [], none⟩, 
            ⟨some 10, .buildSl 24 [.int .i64 0, .str ⟨#[]⟩, .str ⟨#[]⟩, .str ⟨#[]⟩, .bool false, .int .i64 0, .str ⟨#[]⟩, .int .i64 0, .fsl 4 [], .int .i64 0, .str ⟨#[]⟩, .str ⟨#[]⟩, .fsl 4 [], .fsl 5 [], .fsl 8 [], .fsl 2 [], .int .i64 0, .fsl 1 [], .fsl 1 [], .int .i64 0, .int .i64 0, .fsl 2 [], .fsl 7 [], .fsl 24 []] 2 [(0, .t 8), (1, .t 9)], none⟩, 
            ⟨some 11, .build [.int .i64 0, .str ⟨#[]⟩, .str ⟨#[]⟩, .str ⟨#[]⟩, .bool false, .int .i64 0, .str ⟨#[]⟩, .int .i64 0, .fsl 4 [], .int .i64 0, .str ⟨#[]⟩, .str ⟨#[]⟩, .fsl 4 [], .fsl 5 [], .fsl 8 [], .fsl 2 [], .int .i64 0, .fsl 1 [], .fsl 1 [], .int .i64 0, .int .i64 0, .fsl 2 [], .fsl 7 [], .fsl 24 []] [(0, 1, .c (.int .i64 4)), (23, 1, .t 10)], none⟩, 
            ⟨some 1, .alloc 42 [.int .i64 0, .str ⟨#[]⟩, .str ⟨#[]⟩, .str ⟨#[]⟩, .bool false, .int .i64 0, .str ⟨#[]⟩, .int .i64 0, .fsl 4 [], .int .i64 0, .str ⟨#[]⟩, .str ⟨#[]⟩, .fsl 4 [], .fsl 5 [], .fsl 8 [], .fsl 2 [], .int .i64 0, .fsl 1 [], .fsl 1 [], .int .i64 0, .int .i64 0, .fsl 2 [], .fsl 7 [], .fsl 24 []], none⟩, 
            ⟨none, .store 24 (.t 1) (.t 11), none⟩] false)
        (.seq
          (.ops [⟨some 13, .load true 24 (.t 1), none⟩, 
              ⟨some 14, .call 10 [.t 13], none⟩, 
              ⟨some 12, .move (.t 14), none⟩, 
              ⟨some 15, .extract (.t 12) 0, none⟩, 
              ⟨some 16, .extract (.t 12) 1, none⟩, 
              ⟨some 2, .move (.t 15), none⟩, 
              ⟨some 3, .move (.t 16), none⟩] false)
          (.seq
            (.ops [⟨some 17, .load true 24 (.t 1), none⟩, 
                ⟨some 18, .call 22 [.t 17], none⟩, 
                ⟨some 4, .move (.t 18), none⟩] false)
            (.seq
              (.ops [⟨some 19, .load true 24 (.t 1), none⟩, 
                  ⟨some 5, .alloc 42 [.int .i64 0, .str ⟨#[]⟩, .str ⟨#[]⟩, .str ⟨#[]⟩, .bool false, .int .i64 0, .str ⟨#[]⟩, .int .i64 0, .fsl 4 [], .int .i64 0, .str ⟨#[]⟩, .str ⟨#[]⟩, .fsl 4 [], .fsl 5 [], .fsl 8 [], .fsl 2 [], .int .i64 0, .fsl 1 [], .fsl 1 [], .int .i64 0, .int .i64 0, .fsl 2 [], .fsl 7 [], .fsl 24 []], none⟩, 
                  ⟨none, .store 24 (.t 5) (.t 19), none⟩] false)
              (.seq
                (.ops [⟨some 20, .fieldA 2 (.t 5), none⟩, 
                    ⟨none, .store 1 (.t 20) (.c (.str ⟨#[104]⟩)), none⟩] false)
                (.seq
                  (.ops [⟨some 22, .load true 24 (.t 5), none⟩, 
                      ⟨some 23, .call 10 [.t 22], none⟩, 
                      ⟨some 21, .move (.t 23), none⟩, 
                      ⟨some 24, .extract (.t 21) 0, none⟩, 
                      ⟨some 25, .extract (.t 21) 1, none⟩, 
                      ⟨some 6, .move (.t 24), none⟩, 
                      ⟨some 7, .move (.t 25), none⟩] false)
                  (.seq
                    (.ops [⟨some 26, .load true 24 (.t 1), none⟩, 
                        ⟨some 27, .call 13 [.t 26], none⟩, 
                        ⟨some 28, .bin .eql (.t 27) (.c (.int .i64 3)), none⟩, 
                        ⟨some 29, .move (.t 28), none⟩, 
                        ⟨some 30, .load true 24 (.t 1), some (29, true)⟩, 
                        ⟨some 31, .call 15 [.t 30], some (29, true)⟩, 
                        ⟨some 32, .bin .eql (.t 31) (.c (.int .i64 2)), some (29, true)⟩, 
                        ⟨some 33, .pick (.t 29) (.t 32) (.c (.bool false)), none⟩, 
                        ⟨some 34, .move (.t 33), none⟩, 
                        ⟨some 35, .move (.t 4), some (34, true)⟩, 
                        ⟨some 36, .len (.t 35), some (34, true)⟩, 
                        ⟨some 37, .bin .eql (.t 36) (.c (.int .i64 1)), some (34, true)⟩, 
                        ⟨some 38, .pick (.t 34) (.t 37) (.c (.bool false)), none⟩, 
                        ⟨some 39, .move (.t 38), none⟩, 
                        ⟨some 40, .move (.t 4), some (39, true)⟩, 
                        ⟨some 41, .idxA 1 (.t 40) (.c (.int .i64 0)), some (39, true)⟩, 
                        ⟨some 42, .load false 1 (.t 41), some (39, true)⟩, 
                        ⟨some 43, .buildSl 1 [.int .i64 0] 1 [(0, .c (.int .i64 1))], some (39, true)⟩, 
                        ⟨some 44, .call 12 [.t 42, .t 43], some (39, true)⟩, 
                        ⟨some 45, .pick (.t 39) (.t 44) (.c (.bool false)), none⟩, 
                        ⟨some 46, .move (.t 45), none⟩, 
                        ⟨some 47, .move (.t 3), some (46, true)⟩, 
                        ⟨some 48, .bin .eql (.t 47) (.c (.int .i64 0)), some (46, true)⟩, 
                        ⟨some 49, .pick (.t 46) (.t 48) (.c (.bool false)), none⟩, 
                        ⟨some 50, .move (.t 49), none⟩, 
                        ⟨some 51, .move (.t 7), some (50, true)⟩, 
                        ⟨some 52, .bin .eql (.t 51) (.c (.int .i64 7)), some (50, true)⟩, 
                        ⟨some 53, .pick (.t 50) (.t 52) (.c (.bool false)), none⟩, 
                        ⟨some 0, .move (.t 53), none⟩] false)
                    (.ret)))))))) }

/- sequitur/proof.Right -/
def F10 : AF :=
  { ntmps := 17, results := [.tmp 2, .tmp 3], pure := true, body :=
    .seq
      (.ops [⟨some 1, .box 42 (.t 0), none⟩, 
          ⟨some 2, .move (.c (.fsl 1 [])), none⟩, 
          ⟨some 3, .move (.c (.int .i64 0)), none⟩] false)
      (.seq
        (.seq
          (.ops [⟨some 6, .load true 24 (.t 1), none⟩, 
              ⟨some 7, .call 15 [.t 6], none⟩, 
              ⟨some 8, .bin .gtr (.t 7) (.c (.int .i64 64)), none⟩] false)
          (.cond (.t 8)
            (.seq
              (.ops [⟨some 2, .move (.c (.fsl 1 [])), none⟩, 
                  ⟨some 3, .move (.c (.int .i64 6)), none⟩] false)
              (.ret))
            (.skip)))
        (.seq
          (.seq
            (.ops [⟨some 9, .load true 24 (.t 1), none⟩, 
                ⟨some 10, .call 13 [.t 9], none⟩, 
                ⟨some 11, .bin .gtr (.t 10) (.c (.int .i64 4096)), none⟩] false)
            (.cond (.t 11)
              (.seq
                (.ops [⟨some 2, .move (.c (.fsl 1 [])), none⟩, 
                    ⟨some 3, .move (.c (.int .i64 2)), none⟩] false)
                (.ret))
              (.skip)))
          (.seq
            (.ops [⟨some 4, .alloc 30 [.fsl 1 []], none⟩] false)
            (.seq
              (.ops [⟨some 5, .alloc 45 [.int .i64 0], none⟩, 
                  ⟨none, .store 1 (.t 5) (.c (.int .i64 0)), none⟩] false)
              (.seq
                (.ops [⟨some 12, .load true 24 (.t 1), none⟩, 
                    ⟨some 13, .mkfn (.func 31) [] [.t 5, .t 4], none⟩, 
                    ⟨some 14, .call 1000030 [.t 12, .c (.fsl 1 []), .t 13], none⟩] false)
                (.seq
                  (.opsV [⟨some 15, .load false 1 (.t 4), none⟩, 
                      ⟨some 16, .load false 1 (.t 5), none⟩, 
                      ⟨some 2, .move (.t 15), none⟩, 
                      ⟨some 3, .move (.t 16), none⟩])
                  (.ret))))))) }

/- sequitur/sequiturbase.Ints -/
def L12_0 : AC :=
  .seq
    (.seq
      (.ops [⟨some 11, .move (.t 5), none⟩, 
          ⟨some 12, .move (.t 0), none⟩, 
          ⟨some 13, .len (.t 12), none⟩, 
          ⟨some 14, .bin .lss (.t 11) (.t 13), none⟩] false)
      (.cond (.t 14)
        (.skip)
        (.exit 0)))
    (.seq
      (.block 1
        (.seq
          (.ops [⟨some 17, .move (.t 0), none⟩, 
              ⟨some 18, .move (.t 5), none⟩, 
              ⟨some 19, .idxA 1 (.t 17) (.t 18), none⟩, 
              ⟨some 20, .load false 1 (.t 19), none⟩, 
              ⟨some 21, .move (.t 1), none⟩, 
              ⟨some 22, .move (.t 5), none⟩, 
              ⟨some 23, .idxA 1 (.t 21) (.t 22), none⟩, 
              ⟨some 24, .load false 1 (.t 23), none⟩, 
              ⟨some 25, .bin .neq (.t 20) (.t 24), none⟩] true)
          (.cond (.t 25)
            (.seq
              (.ops [⟨some 4, .move (.c (.bool false)), none⟩] false)
              (.ret))
            (.skip))))
      (.ops [⟨some 15, .move (.t 5), none⟩, 
          ⟨some 16, .bin .add (.t 15) (.c (.int .i64 1)), none⟩, 
          ⟨some 5, .move (.t 16), none⟩] false))
def F12 : AF :=
  { ntmps := 26, results := [.tmp 4], pure := true, body :=
    .seq
      (.ops [⟨some 4, .move (.c (.bool false)), none⟩] false)
      (.seq
        (.seq
          (.ops [⟨some 6, .move (.t 0), none⟩, 
              ⟨some 7, .len (.t 6), none⟩, 
              ⟨some 8, .move (.t 1), none⟩, 
              ⟨some 9, .len (.t 8), none⟩, 
              ⟨some 10, .bin .neq (.t 7) (.t 9), none⟩] false)
          (.cond (.t 10)
            (.seq
              (.ops [⟨some 4, .move (.c (.bool false)), none⟩] false)
              (.ret))
            (.skip)))
        (.seq
          (.seq
            (.ops [⟨some 5, .move (.c (.int .i64 0)), none⟩] false)
            (.block 0
              (.loop L12_0)))
          (.seq
            (.ops [⟨some 4, .move (.c (.bool true)), none⟩] false)
            (.ret)))) }

/- sequitur/proof.Size -/
def F13 : AF :=
  { ntmps := 11, results := [.tmp 2], pure := true, body :=
    .seq
      (.ops [⟨some 1, .box 42 (.t 0), none⟩, 
          ⟨some 2, .move (.c (.int .i64 0)), none⟩] false)
      (.seq
        (.ops [⟨some 3, .alloc 3 [.int .i64 0], none⟩, 
            ⟨none, .store 1 (.t 3) (.c (.int .i64 0)), none⟩] false)
        (.seq
          (.ops [⟨some 4, .alloc 53 [.nilf], none⟩] false)
          (.seq
            (.ops [⟨some 5, .mkfn (.func 35) [] [.t 3, .t 4], none⟩, 
                ⟨none, .store 1 (.t 4) (.t 5), none⟩] false)
            (.seq
              (.ops [⟨some 6, .load false 1 (.t 4), none⟩, 
                  ⟨some 7, .load true 24 (.t 1), none⟩, 
                  ⟨some 8, .callv (.t 6) [.t 7], none⟩] false)
              (.seq
                (.ops [⟨some 9, .load false 1 (.t 3), none⟩, 
                    ⟨some 10, .min2 (.t 9) (.c (.int .i64 4097)), none⟩, 
                    ⟨some 2, .move (.t 10), none⟩] false)
                (.ret)))))) }

/- sequitur/proof.Depth -/
def F15 : AF :=
  { ntmps := 5, results := [.tmp 2], pure := true, body :=
    .seq
      (.ops [⟨some 1, .box 42 (.t 0), none⟩, 
          ⟨some 2, .move (.c (.int .i64 0)), none⟩] false)
      (.seq
        (.ops [⟨some 3, .load true 24 (.t 1), none⟩, 
            ⟨some 4, .call 37 [.t 3, .c (.int .i64 65)], none⟩, 
            ⟨some 2, .move (.t 4), none⟩] false)
        (.ret)) }

/- sequitur/proof.Copy -/
def F18 : AF :=
  { ntmps := 30, results := [.cell 2 true 24], pure := true, body :=
    .seq
      (.ops [⟨some 1, .box 42 (.t 0), none⟩, 
          ⟨some 2, .alloc 42 [.int .i64 0, .str ⟨#[]⟩, .str ⟨#[]⟩, .str ⟨#[]⟩, .bool false, .int .i64 0, .str ⟨#[]⟩, .int .i64 0, .fsl 4 [], .int .i64 0, .str ⟨#[]⟩, .str ⟨#[]⟩, .fsl 4 [], .fsl 5 [], .fsl 8 [], .fsl 2 [], .int .i64 0, .fsl 1 [], .fsl 1 [], .int .i64 0, .int .i64 0, .fsl 2 [], .fsl 7 [], .fsl 24 []], none⟩] false)
      (.seq
        (.ops [⟨some 3, .fieldA 5 (.t 1), none⟩, 
            ⟨some 4, .load true 4 (.t 3), none⟩, 
            ⟨some 5, .call 42 [.t 4], none⟩, 
            ⟨some 6, .fieldA 9 (.t 1), none⟩, 
            ⟨some 7, .load true 5 (.t 6), none⟩, 
            ⟨some 8, .call 43 [.t 7], none⟩, 
            ⟨some 9, .fieldA 5 (.t 1), none⟩, 
            ⟨none, .store 4 (.t 9) (.t 5), none⟩, 
            ⟨some 10, .fieldA 9 (.t 1), none⟩, 
            ⟨none, .store 5 (.t 10) (.t 8), none⟩] true)
        (.seq
          (.ops [⟨some 11, .fieldA 14 (.t 1), none⟩, 
              ⟨some 12, .fieldA 0 (.t 11), none⟩, 
              ⟨some 13, .load false 1 (.t 12), none⟩, 
              ⟨some 14, .call 44 [.t 13, .f 45], none⟩, 
              ⟨some 15, .fieldA 14 (.t 1), none⟩, 
              ⟨some 16, .fieldA 1 (.t 15), none⟩, 
              ⟨some 17, .load false 1 (.t 16), none⟩, 
              ⟨some 18, .call 47 [.t 17, .f 48], none⟩, 
              ⟨some 19, .fieldA 14 (.t 1), none⟩, 
              ⟨some 20, .fieldA 2 (.t 19), none⟩, 
              ⟨some 21, .load true 7 (.t 20), none⟩, 
              ⟨some 22, .call 46 [.t 21], none⟩, 
              ⟨some 23, .build [.fsl 8 [], .fsl 2 [], .int .i64 0, .fsl 1 [], .fsl 1 [], .int .i64 0, .int .i64 0, .fsl 2 [], .fsl 7 []] [(0, 1, .t 14), (1, 1, .t 18), (2, 7, .t 22)], none⟩, 
              ⟨some 24, .fieldA 14 (.t 1), none⟩, 
              ⟨none, .store 9 (.t 24) (.t 23), none⟩] true)
          (.seq
            (.ops [⟨some 25, .fieldA 23 (.t 1), none⟩, 
                ⟨some 26, .load false 1 (.t 25), none⟩, 
                ⟨some 27, .call 49 [.t 26, .f 18], none⟩, 
                ⟨some 28, .fieldA 23 (.t 1), none⟩, 
                ⟨none, .store 1 (.t 28) (.t 27), none⟩] false)
            (.seq
              (.ops [⟨some 29, .load true 24 (.t 1), none⟩, 
                  ⟨none, .store 24 (.t 2) (.t 29), none⟩] false)
              (.ret))))) }

/- sequitur/sequiturref38.Exact -/
def L19_0 : AC :=
  .seq
    (.seq
      (.ops [⟨some 21, .move (.t 5), none⟩, 
          ⟨some 22, .fieldA 23 (.t 2), none⟩, 
          ⟨some 23, .load false 1 (.t 22), none⟩, 
          ⟨some 24, .len (.t 23), none⟩, 
          ⟨some 25, .bin .lss (.t 21) (.t 24), none⟩] false)
      (.cond (.t 25)
        (.skip)
        (.exit 0)))
    (.seq
      (.block 1
        (.seq
          (.ops [⟨some 28, .fieldA 23 (.t 2), none⟩, 
              ⟨some 29, .load false 1 (.t 28), none⟩, 
              ⟨some 30, .move (.t 5), none⟩, 
              ⟨some 31, .idxA 24 (.t 29) (.t 30), none⟩, 
              ⟨some 32, .load true 24 (.t 31), none⟩, 
              ⟨some 33, .fieldA 23 (.t 3), none⟩, 
              ⟨some 34, .load false 1 (.t 33), none⟩, 
              ⟨some 35, .move (.t 5), none⟩, 
              ⟨some 36, .idxA 24 (.t 34) (.t 35), none⟩, 
              ⟨some 37, .load true 24 (.t 36), none⟩, 
              ⟨some 38, .call 19 [.t 32, .t 37], none⟩, 
              ⟨some 39, .not (.t 38), none⟩] true)
          (.cond (.t 39)
            (.seq
              (.ops [⟨some 4, .move (.c (.bool false)), none⟩] false)
              (.ret))
            (.skip))))
      (.ops [⟨some 26, .move (.t 5), none⟩, 
          ⟨some 27, .bin .add (.t 26) (.c (.int .i64 1)), none⟩, 
          ⟨some 5, .move (.t 27), none⟩] false))
def F19 : AF :=
  { ntmps := 43, results := [.tmp 4], pure := true, body :=
    .seq
      (.ops [⟨some 2, .box 42 (.t 0), none⟩, 
          ⟨some 3, .box 42 (.t 1), none⟩, 
          ⟨some 4, .move (.c (.bool false)), none⟩] false)
      (.seq
        (.seq
          (.ops [⟨some 6, .fieldA 9 (.t 2), none⟩, 
              ⟨some 7, .load true 5 (.t 6), none⟩, 
              ⟨some 8, .fieldA 9 (.t 3), none⟩, 
              ⟨some 9, .load true 5 (.t 8), none⟩, 
              ⟨some 10, .call 50 [.t 7, .t 9], none⟩, 
              ⟨some 11, .not (.t 10), none⟩, 
              ⟨some 12, .move (.t 11), none⟩, 
              ⟨some 13, .fieldA 23 (.t 2), some (12, false)⟩, 
              ⟨some 14, .load false 1 (.t 13), some (12, false)⟩, 
              ⟨some 15, .len (.t 14), some (12, false)⟩, 
              ⟨some 16, .fieldA 23 (.t 3), some (12, false)⟩, 
              ⟨some 17, .load false 1 (.t 16), some (12, false)⟩, 
              ⟨some 18, .len (.t 17), some (12, false)⟩, 
              ⟨some 19, .bin .neq (.t 15) (.t 18), some (12, false)⟩, 
              ⟨some 20, .pick (.t 12) (.c (.bool true)) (.t 19), none⟩] false)
          (.cond (.t 20)
            (.seq
              (.ops [⟨some 4, .move (.c (.bool false)), none⟩] false)
              (.ret))
            (.skip)))
        (.seq
          (.seq
            (.ops [⟨some 5, .move (.c (.int .i64 0)), none⟩] false)
            (.block 0
              (.loop L19_0)))
          (.seq
            (.ops [⟨some 40, .load true 24 (.t 2), none⟩, 
                ⟨some 41, .load true 24 (.t 3), none⟩, 
                ⟨some 42, .call 27 [.t 40, .t 41], none⟩, 
                ⟨some 4, .move (.t 42), none⟩] false)
            (.ret)))) }

/- sequitur/proof.Same -/
def F20 : AF :=
  { ntmps := 86, results := [.tmp 4], pure := true, body :=
    .seq
      (.ops [⟨some 2, .box 42 (.t 0), none⟩, 
          ⟨some 3, .box 42 (.t 1), none⟩, 
          ⟨some 4, .move (.c (.bool false)), none⟩] false)
      (.seq
        (.seq
          (.ops [⟨some 7, .fieldA 0 (.t 2), none⟩, 
              ⟨some 8, .load false 1 (.t 7), none⟩, 
              ⟨some 9, .fieldA 0 (.t 3), none⟩, 
              ⟨some 10, .load false 1 (.t 9), none⟩, 
              ⟨some 11, .bin .neq (.t 8) (.t 10), none⟩, 
              ⟨some 12, .move (.t 11), none⟩, 
              ⟨some 13, .fieldA 1 (.t 2), some (12, false)⟩, 
              ⟨some 14, .load false 1 (.t 13), some (12, false)⟩, 
              ⟨some 15, .fieldA 1 (.t 3), some (12, false)⟩, 
              ⟨some 16, .load false 1 (.t 15), some (12, false)⟩, 
              ⟨some 17, .bin .neq (.t 14) (.t 16), some (12, false)⟩, 
              ⟨some 18, .pick (.t 12) (.c (.bool true)) (.t 17), none⟩, 
              ⟨some 19, .move (.t 18), none⟩, 
              ⟨some 20, .fieldA 2 (.t 2), some (19, false)⟩, 
              ⟨some 21, .load false 1 (.t 20), some (19, false)⟩, 
              ⟨some 22, .fieldA 2 (.t 3), some (19, false)⟩, 
              ⟨some 23, .load false 1 (.t 22), some (19, false)⟩, 
              ⟨some 24, .bin .neq (.t 21) (.t 23), some (19, false)⟩, 
              ⟨some 25, .pick (.t 19) (.c (.bool true)) (.t 24), none⟩, 
              ⟨some 26, .move (.t 25), none⟩, 
              ⟨some 27, .fieldA 3 (.t 2), some (26, false)⟩, 
              ⟨some 28, .load false 1 (.t 27), some (26, false)⟩, 
              ⟨some 29, .fieldA 3 (.t 3), some (26, false)⟩, 
              ⟨some 30, .load false 1 (.t 29), some (26, false)⟩, 
              ⟨some 31, .bin .neq (.t 28) (.t 30), some (26, false)⟩, 
              ⟨some 32, .pick (.t 26) (.c (.bool true)) (.t 31), none⟩, 
              ⟨some 33, .move (.t 32), none⟩, 
              ⟨some 34, .fieldA 4 (.t 2), some (33, false)⟩, 
              ⟨some 35, .load false 1 (.t 34), some (33, false)⟩, 
              ⟨some 36, .fieldA 4 (.t 3), some (33, false)⟩, 
              ⟨some 37, .load false 1 (.t 36), some (33, false)⟩, 
              ⟨some 38, .beq true (.t 35) (.t 37), some (33, false)⟩, 
              ⟨some 39, .pick (.t 33) (.c (.bool true)) (.t 38), none⟩, 
              ⟨some 40, .move (.t 39), none⟩, 
              ⟨some 41, .fieldA 5 (.t 2), some (40, false)⟩, 
              ⟨some 42, .load true 4 (.t 41), some (40, false)⟩, 
              ⟨some 43, .fieldA 5 (.t 3), some (40, false)⟩, 
              ⟨some 44, .load true 4 (.t 43), some (40, false)⟩, 
              ⟨some 45, .call 51 [.t 42, .t 44], some (40, false)⟩, 
              ⟨some 46, .not (.t 45), some (40, false)⟩, 
              ⟨some 47, .pick (.t 40) (.c (.bool true)) (.t 46), none⟩, 
              ⟨some 48, .move (.t 47), none⟩, 
              ⟨some 49, .fieldA 9 (.t 2), some (48, false)⟩, 
              ⟨some 50, .load true 5 (.t 49), some (48, false)⟩, 
              ⟨some 51, .fieldA 9 (.t 3), some (48, false)⟩, 
              ⟨some 52, .load true 5 (.t 51), some (48, false)⟩, 
              ⟨some 53, .call 52 [.t 50, .t 52], some (48, false)⟩, 
              ⟨some 54, .not (.t 53), some (48, false)⟩, 
              ⟨some 55, .pick (.t 48) (.c (.bool true)) (.t 54), none⟩] false)
          (.cond (.t 55)
            (.seq
              (.ops [⟨some 4, .move (.c (.bool false)), none⟩] false)
              (.ret))
            (.skip)))
        (.seq
          (.opsV [⟨some 56, .fieldA 14 (.t 2), none⟩, 
              ⟨some 57, .load true 9 (.t 56), none⟩, 
              ⟨some 58, .fieldA 14 (.t 3), none⟩, 
              ⟨some 59, .load true 9 (.t 58), none⟩, 
              ⟨some 5, .alloc 39 [.fsl 8 [], .fsl 2 [], .int .i64 0, .fsl 1 [], .fsl 1 [], .int .i64 0, .int .i64 0, .fsl 2 [], .fsl 7 []], none⟩, 
              ⟨some 6, .alloc 39 [.fsl 8 [], .fsl 2 [], .int .i64 0, .fsl 1 [], .fsl 1 [], .int .i64 0, .int .i64 0, .fsl 2 [], .fsl 7 []], none⟩, 
              ⟨none, .store 9 (.t 5) (.t 57), none⟩, 
              ⟨none, .store 9 (.t 6) (.t 59), none⟩])
          (.seq
            (.ops [⟨some 60, .fieldA 0 (.t 5), none⟩, 
                ⟨some 61, .load false 1 (.t 60), none⟩, 
                ⟨some 62, .fieldA 0 (.t 6), none⟩, 
                ⟨some 63, .load false 1 (.t 62), none⟩, 
                ⟨some 64, .call 53 [.t 61, .t 63, .f 54], none⟩, 
                ⟨some 65, .move (.t 64), none⟩, 
                ⟨some 66, .fieldA 1 (.t 5), some (65, true)⟩, 
                ⟨some 67, .load false 1 (.t 66), some (65, true)⟩, 
                ⟨some 68, .fieldA 1 (.t 6), some (65, true)⟩, 
                ⟨some 69, .load false 1 (.t 68), some (65, true)⟩, 
                ⟨some 70, .call 55 [.t 67, .t 69, .f 56], some (65, true)⟩, 
                ⟨some 71, .pick (.t 65) (.t 70) (.c (.bool false)), none⟩, 
                ⟨some 72, .move (.t 71), none⟩, 
                ⟨some 73, .fieldA 2 (.t 5), some (72, true)⟩, 
                ⟨some 74, .load true 7 (.t 73), some (72, true)⟩, 
                ⟨some 75, .fieldA 2 (.t 6), some (72, true)⟩, 
                ⟨some 76, .load true 7 (.t 75), some (72, true)⟩, 
                ⟨some 77, .call 57 [.t 74, .t 76], some (72, true)⟩, 
                ⟨some 78, .pick (.t 72) (.t 77) (.c (.bool false)), none⟩, 
                ⟨some 79, .move (.t 78), none⟩, 
                ⟨some 80, .fieldA 23 (.t 2), some (79, true)⟩, 
                ⟨some 81, .load false 1 (.t 80), some (79, true)⟩, 
                ⟨some 82, .fieldA 23 (.t 3), some (79, true)⟩, 
                ⟨some 83, .load false 1 (.t 82), some (79, true)⟩, 
                ⟨some 84, .call 58 [.t 81, .t 83, .f 20], some (79, true)⟩, 
                ⟨some 85, .pick (.t 79) (.t 84) (.c (.bool false)), none⟩, 
                ⟨some 4, .move (.t 85), none⟩] false)
            (.ret)))) }

/- sequitur/proof.Open -/
def F22 : AF :=
  { ntmps := 8, results := [.tmp 2], pure := true, body :=
    .seq
      (.ops [⟨some 1, .box 42 (.t 0), none⟩, 
          ⟨some 2, .move (.c (.fsl 1 [])), none⟩] false)
      (.seq
        (.ops [⟨some 3, .alloc 55 [.fsl 1 []], none⟩] false)
        (.seq
          (.ops [⟨some 4, .load true 24 (.t 1), none⟩, 
              ⟨some 5, .mkfn (.func 60) [] [.t 3], none⟩, 
              ⟨some 6, .call 1000030 [.t 4, .c (.fsl 1 []), .t 5], none⟩] false)
          (.seq
            (.ops [⟨some 7, .load false 1 (.t 3), none⟩, 
                ⟨some 2, .move (.t 7), none⟩] false)
            (.ret)))) }

/- sequitur/proof.Count -/
def F23 : AF :=
  { ntmps := 10, results := [.tmp 4], pure := true, body :=
    .seq
      (.ops [⟨some 2, .box 42 (.t 0), none⟩, 
          ⟨some 3, .box 3 (.t 1), none⟩, 
          ⟨some 4, .move (.c (.int .i64 0)), none⟩] false)
      (.seq
        (.ops [⟨some 5, .alloc 3 [.int .i64 0], none⟩, 
            ⟨none, .store 1 (.t 5) (.c (.int .i64 0)), none⟩] false)
        (.seq
          (.ops [⟨some 6, .load true 24 (.t 2), none⟩, 
              ⟨some 7, .mkfn (.func 61) [] [.t 3, .t 5], none⟩, 
              ⟨some 8, .call 1000030 [.t 6, .c (.fsl 1 []), .t 7], none⟩] false)
          (.seq
            (.ops [⟨some 9, .load false 1 (.t 5), none⟩, 
                ⟨some 4, .move (.t 9), none⟩] false)
            (.ret)))) }

/- sequitur/proof.At -/
def L24_0 : AC :=
  .seq
    (.ops [⟨some 11, .bin .lss (.t 10) (.t 9), none⟩] false)
    (.seq
      (.cond (.t 11)
        (.skip)
        (.exit 0))
      (.seq
        (.block 1
          (.seq
            (.ops [⟨some 12, .idxA 1 (.t 8) (.t 10), none⟩, 
                ⟨some 13, .load false 1 (.t 12), none⟩, 
                ⟨some 7, .move (.t 13), none⟩] false)
            (.seq
              (.seq
                (.ops [⟨some 14, .move (.t 7), none⟩, 
                    ⟨some 15, .bin .lss (.t 14) (.c (.int .i64 0)), none⟩, 
                    ⟨some 16, .move (.t 15), none⟩, 
                    ⟨some 17, .move (.t 7), some (16, false)⟩, 
                    ⟨some 18, .fieldA 23 (.t 2), some (16, false)⟩, 
                    ⟨some 19, .load false 1 (.t 18), some (16, false)⟩, 
                    ⟨some 20, .len (.t 19), some (16, false)⟩, 
                    ⟨some 21, .bin .geq (.t 17) (.t 20), some (16, false)⟩, 
                    ⟨some 22, .pick (.t 16) (.c (.bool true)) (.t 21), none⟩] false)
                (.cond (.t 22)
                  (.seq
                    (.ops [⟨some 23, .build [.int .i64 0, .str ⟨#[]⟩, .str ⟨#[]⟩, .str ⟨#[]⟩, .bool false, .int .i64 0, .str ⟨#[]⟩, .int .i64 0, .fsl 4 [], .int .i64 0, .str ⟨#[]⟩, .str ⟨#[]⟩, .fsl 4 [], .fsl 5 [], .fsl 8 [], .fsl 2 [], .int .i64 0, .fsl 1 [], .fsl 1 [], .int .i64 0, .int .i64 0, .fsl 2 [], .fsl 7 [], .fsl 24 []] [], none⟩, 
                        ⟨none, .store 24 (.t 4) (.t 23), none⟩, 
                        ⟨some 5, .move (.c (.bool false)), none⟩] false)
                    (.ret))
                  (.skip)))
              (.ops [⟨some 24, .fieldA 23 (.t 2), none⟩, 
                  ⟨some 25, .load false 1 (.t 24), none⟩, 
                  ⟨some 26, .move (.t 7), none⟩, 
                  ⟨some 27, .idxA 24 (.t 25) (.t 26), none⟩, 
                  ⟨some 28, .load true 24 (.t 27), none⟩, 
                  ⟨none, .store 24 (.t 2) (.t 28), none⟩] false))))
        (.ops [⟨some 29, .bin .add (.t 10) (.c (.int .i64 1)), none⟩, 
            ⟨some 10, .move (.t 29), none⟩] false)))
def F24 : AF :=
  { ntmps := 32, results := [.cell 4 true 24, .tmp 5], pure := true, body :=
    .seq
      (.ops [⟨some 2, .box 42 (.t 0), none⟩, 
          ⟨some 4, .alloc 42 [.int .i64 0, .str ⟨#[]⟩, .str ⟨#[]⟩, .str ⟨#[]⟩, .bool false, .int .i64 0, .str ⟨#[]⟩, .int .i64 0, .fsl 4 [], .int .i64 0, .str ⟨#[]⟩, .str ⟨#[]⟩, .fsl 4 [], .fsl 5 [], .fsl 8 [], .fsl 2 [], .int .i64 0, .fsl 1 [], .fsl 1 [], .int .i64 0, .int .i64 0, .fsl 2 [], .fsl 7 [], .fsl 24 []], none⟩, 
          ⟨some 5, .move (.c (.bool false)), none⟩] false)
      (.seq
        (.seq
          (.ops [⟨some 8, .move (.t 1), none⟩, 
              ⟨some 9, .len (.t 8), none⟩, 
              ⟨some 10, .move (.c (.int .i64 0)), none⟩] false)
          (.block 0
            (.loop L24_0)))
        (.seq
          (.ops [⟨some 30, .load true 24 (.t 2), none⟩, 
              ⟨some 31, .call 18 [.t 30], none⟩, 
              ⟨none, .store 24 (.t 4) (.t 31), none⟩, 
              ⟨some 5, .move (.c (.bool true)), none⟩] false)
          (.ret))) }

/- sequitur/proof.Put -/
def L25_0 : AC :=
  .seq
    (.ops [⟨some 28, .bin .lss (.t 27) (.t 26), none⟩] false)
    (.seq
      (.cond (.t 28)
        (.skip)
        (.exit 0))
      (.seq
        (.block 1
          (.seq
            (.ops [⟨some 29, .idxA 1 (.t 25) (.t 27), none⟩, 
                ⟨some 30, .load false 1 (.t 29), none⟩, 
                ⟨some 13, .move (.t 30), none⟩] false)
            (.ops [⟨some 31, .move (.t 11), none⟩, 
                ⟨some 32, .nilck (.t 31), none⟩, 
                ⟨some 33, .fieldA 23 (.t 32), none⟩, 
                ⟨some 34, .load false 1 (.t 33), none⟩, 
                ⟨some 35, .move (.t 13), none⟩, 
                ⟨some 36, .idxA 24 (.t 34) (.t 35), none⟩, 
                ⟨some 11, .move (.t 36), none⟩] false)))
        (.ops [⟨some 37, .bin .add (.t 27) (.c (.int .i64 1)), none⟩, 
            ⟨some 27, .move (.t 37), none⟩] false)))
def F25 : AF :=
  { ntmps := 43, results := [.cell 6 true 24, .tmp 7], pure := true, body :=
    .seq
      (.ops [⟨some 3, .box 42 (.t 0), none⟩, 
          ⟨some 5, .box 42 (.t 2), none⟩, 
          ⟨some 6, .alloc 42 [.int .i64 0, .str ⟨#[]⟩, .str ⟨#[]⟩, .str ⟨#[]⟩, .bool false, .int .i64 0, .str ⟨#[]⟩, .int .i64 0, .fsl 4 [], .int .i64 0, .str ⟨#[]⟩, .str ⟨#[]⟩, .fsl 4 [], .fsl 5 [], .fsl 8 [], .fsl 2 [], .int .i64 0, .fsl 1 [], .fsl 1 [], .int .i64 0, .int .i64 0, .fsl 2 [], .fsl 7 [], .fsl 24 []], none⟩, 
          ⟨some 7, .move (.c (.bool false)), none⟩] false)
      (.seq
        (.seq
          (.ops [⟨some 15, .load true 24 (.t 3), none⟩, 
              ⟨some 16, .move (.t 1), none⟩, 
              ⟨some 17, .call 24 [.t 15, .t 16], none⟩, 
              ⟨some 14, .move (.t 17), none⟩, 
              ⟨some 18, .extract (.t 14) 0, none⟩, 
              ⟨some 19, .extract (.t 14) 1, none⟩, 
              ⟨some 8, .alloc 42 [.int .i64 0, .str ⟨#[]⟩, .str ⟨#[]⟩, .str ⟨#[]⟩, .bool false, .int .i64 0, .str ⟨#[]⟩, .int .i64 0, .fsl 4 [], .int .i64 0, .str ⟨#[]⟩, .str ⟨#[]⟩, .fsl 4 [], .fsl 5 [], .fsl 8 [], .fsl 2 [], .int .i64 0, .fsl 1 [], .fsl 1 [], .int .i64 0, .int .i64 0, .fsl 2 [], .fsl 7 [], .fsl 24 []], none⟩, 
              ⟨none, .store 24 (.t 8) (.t 18), none⟩, 
              ⟨some 9, .move (.t 19), none⟩] false)
          (.seq
            (.ops [⟨some 20, .move (.t 9), none⟩, 
                ⟨some 21, .not (.t 20), none⟩] false)
            (.cond (.t 21)
              (.seq
                (.ops [⟨some 22, .build [.int .i64 0, .str ⟨#[]⟩, .str ⟨#[]⟩, .str ⟨#[]⟩, .bool false, .int .i64 0, .str ⟨#[]⟩, .int .i64 0, .fsl 4 [], .int .i64 0, .str ⟨#[]⟩, .str ⟨#[]⟩, .fsl 4 [], .fsl 5 [], .fsl 8 [], .fsl 2 [], .int .i64 0, .fsl 1 [], .fsl 1 [], .int .i64 0, .int .i64 0, .fsl 2 [], .fsl 7 [], .fsl 24 []] [], none⟩, 
                    ⟨none, .store 24 (.t 6) (.t 22), none⟩, 
                    ⟨some 7, .move (.c (.bool false)), none⟩] false)
                (.ret))
              (.skip))))
        (.seq
          (.ops [⟨some 23, .load true 24 (.t 3), none⟩, 
              ⟨some 24, .call 1000018 [.t 23], none⟩, 
              ⟨some 10, .alloc 42 [.int .i64 0, .str ⟨#[]⟩, .str ⟨#[]⟩, .str ⟨#[]⟩, .bool false, .int .i64 0, .str ⟨#[]⟩, .int .i64 0, .fsl 4 [], .int .i64 0, .str ⟨#[]⟩, .str ⟨#[]⟩, .fsl 4 [], .fsl 5 [], .fsl 8 [], .fsl 2 [], .int .i64 0, .fsl 1 [], .fsl 1 [], .int .i64 0, .int .i64 0, .fsl 2 [], .fsl 7 [], .fsl 24 []], none⟩, 
              ⟨none, .store 24 (.t 10) (.t 24), none⟩] false)
          (.seq
            (.ops [⟨some 11, .move (.t 10), none⟩] false)
            (.seq
              (.seq
                (.ops [⟨some 25, .move (.t 1), none⟩, 
                    ⟨some 26, .len (.t 25), none⟩, 
                    ⟨some 27, .move (.c (.int .i64 0)), none⟩] false)
                (.block 0
                  (.loop L25_0)))
              (.seq
                (.ops [⟨some 38, .move (.t 11), none⟩, 
                    ⟨some 39, .load true 24 (.t 5), none⟩, 
                    ⟨some 40, .call 1000018 [.t 39], none⟩, 
                    ⟨some 41, .nilck (.t 38), none⟩, 
                    ⟨none, .store 24 (.t 41) (.t 40), none⟩] false)
                (.seq
                  (.ops [⟨some 42, .load true 24 (.t 10), none⟩, 
                      ⟨none, .store 24 (.t 6) (.t 42), none⟩, 
                      ⟨some 7, .move (.c (.bool true)), none⟩] false)
                  (.ret))))))) }

/- sequitur/sequiturref38.Put -/
def F26 : AF :=
  { ntmps := 55, results := [.cell 6 true 24, .tmp 7], pure := true, body :=
    .seq
      (.ops [⟨some 3, .box 42 (.t 0), none⟩, 
          ⟨some 5, .box 42 (.t 2), none⟩, 
          ⟨some 6, .alloc 42 [.int .i64 0, .str ⟨#[]⟩, .str ⟨#[]⟩, .str ⟨#[]⟩, .bool false, .int .i64 0, .str ⟨#[]⟩, .int .i64 0, .fsl 4 [], .int .i64 0, .str ⟨#[]⟩, .str ⟨#[]⟩, .fsl 4 [], .fsl 5 [], .fsl 8 [], .fsl 2 [], .int .i64 0, .fsl 1 [], .fsl 1 [], .int .i64 0, .int .i64 0, .fsl 2 [], .fsl 7 [], .fsl 24 []], none⟩, 
          ⟨some 7, .move (.c (.bool false)), none⟩] false)
      (.seq
        (.seq
          (.ops [⟨some 12, .move (.t 1), none⟩, 
              ⟨some 13, .len (.t 12), none⟩, 
              ⟨some 14, .bin .eql (.t 13) (.c (.int .i64 0)), none⟩] false)
          (.cond (.t 14)
            (.seq
              (.ops [⟨some 15, .load true 24 (.t 5), none⟩, 
                  ⟨none, .store 24 (.t 6) (.t 15), none⟩, 
                  ⟨some 7, .move (.c (.bool true)), none⟩] false)
              (.ret))
            (.skip)))
        (.seq
          (.ops [⟨some 16, .move (.t 1), none⟩, 
              ⟨some 17, .idxA 1 (.t 16) (.c (.int .i64 0)), none⟩, 
              ⟨some 18, .load false 1 (.t 17), none⟩, 
              ⟨some 8, .move (.t 18), none⟩] false)
          (.seq
            (.seq
              (.ops [⟨some 19, .move (.t 8), none⟩, 
                  ⟨some 20, .bin .lss (.t 19) (.c (.int .i64 0)), none⟩, 
                  ⟨some 21, .move (.t 20), none⟩, 
                  ⟨some 22, .move (.t 8), some (21, false)⟩, 
                  ⟨some 23, .fieldA 23 (.t 3), some (21, false)⟩, 
                  ⟨some 24, .load false 1 (.t 23), some (21, false)⟩, 
                  ⟨some 25, .len (.t 24), some (21, false)⟩, 
                  ⟨some 26, .bin .geq (.t 22) (.t 25), some (21, false)⟩, 
                  ⟨some 27, .pick (.t 21) (.c (.bool true)) (.t 26), none⟩] false)
              (.cond (.t 27)
                (.seq
                  (.ops [⟨some 28, .build [.int .i64 0, .str ⟨#[]⟩, .str ⟨#[]⟩, .str ⟨#[]⟩, .bool false, .int .i64 0, .str ⟨#[]⟩, .int .i64 0, .fsl 4 [], .int .i64 0, .str ⟨#[]⟩, .str ⟨#[]⟩, .fsl 4 [], .fsl 5 [], .fsl 8 [], .fsl 2 [], .int .i64 0, .fsl 1 [], .fsl 1 [], .int .i64 0, .int .i64 0, .fsl 2 [], .fsl 7 [], .fsl 24 []] [], none⟩, 
                      ⟨none, .store 24 (.t 6) (.t 28), none⟩, 
                      ⟨some 7, .move (.c (.bool false)), none⟩] false)
                  (.ret))
                (.skip)))
            (.seq
              (.opsV [⟨some 30, .fieldA 23 (.t 3), none⟩, 
                  ⟨some 31, .load false 1 (.t 30), none⟩, 
                  ⟨some 32, .move (.t 8), none⟩, 
                  ⟨some 33, .idxA 24 (.t 31) (.t 32), none⟩, 
                  ⟨some 34, .load true 24 (.t 33), none⟩, 
                  ⟨some 35, .move (.t 1), none⟩, 
                  ⟨some 36, .slice 1 (.t 35) (some (.c (.int .i64 1))) none none, none⟩, 
                  ⟨some 37, .load true 24 (.t 5), none⟩, 
                  ⟨some 38, .call 26 [.t 34, .t 36, .t 37], none⟩, 
                  ⟨some 29, .move (.t 38), none⟩, 
                  ⟨some 39, .extract (.t 29) 0, none⟩, 
                  ⟨some 40, .extract (.t 29) 1, none⟩, 
                  ⟨some 9, .alloc 42 [.int .i64 0, .str ⟨#[]⟩, .str ⟨#[]⟩, .str ⟨#[]⟩, .bool false, .int .i64 0, .str ⟨#[]⟩, .int .i64 0, .fsl 4 [], .int .i64 0, .str ⟨#[]⟩, .str ⟨#[]⟩, .fsl 4 [], .fsl 5 [], .fsl 8 [], .fsl 2 [], .int .i64 0, .fsl 1 [], .fsl 1 [], .int .i64 0, .int .i64 0, .fsl 2 [], .fsl 7 [], .fsl 24 []], none⟩, 
                  ⟨none, .store 24 (.t 9) (.t 39), none⟩, 
                  ⟨some 10, .move (.t 40), none⟩])
              (.seq
                (.seq
                  (.ops [⟨some 41, .move (.t 10), none⟩, 
                      ⟨some 42, .not (.t 41), none⟩] false)
                  (.cond (.t 42)
                    (.seq
                      (.ops [⟨some 43, .build [.int .i64 0, .str ⟨#[]⟩, .str ⟨#[]⟩, .str ⟨#[]⟩, .bool false, .int .i64 0, .str ⟨#[]⟩, .int .i64 0, .fsl 4 [], .int .i64 0, .str ⟨#[]⟩, .str ⟨#[]⟩, .fsl 4 [], .fsl 5 [], .fsl 8 [], .fsl 2 [], .int .i64 0, .fsl 1 [], .fsl 1 [], .int .i64 0, .int .i64 0, .fsl 2 [], .fsl 7 [], .fsl 24 []] [], none⟩, 
                          ⟨none, .store 24 (.t 6) (.t 43), none⟩, 
                          ⟨some 7, .move (.c (.bool false)), none⟩] false)
                      (.ret))
                    (.skip)))
                (.seq
                  (.ops [⟨some 11, .move (.c (.fsl 24 [])), none⟩] false)
                  (.seq
                    (.ops [⟨some 44, .move (.t 11), none⟩, 
                        ⟨some 45, .fieldA 23 (.t 3), none⟩, 
                        ⟨some 46, .load false 1 (.t 45), none⟩, 
                        ⟨some 47, .append 42 24 400 (.t 44) (.t 46), none⟩, 
                        ⟨some 11, .move (.t 47), none⟩] false)
                    (.seq
                      (.ops [⟨some 48, .move (.t 11), none⟩, 
                          ⟨some 49, .move (.t 8), none⟩, 
                          ⟨some 50, .load true 24 (.t 9), none⟩, 
                          ⟨some 51, .idxA 24 (.t 48) (.t 49), none⟩, 
                          ⟨none, .store 24 (.t 51) (.t 50), none⟩] false)
                      (.seq
                        (.ops [⟨some 52, .move (.t 11), none⟩, 
                            ⟨some 53, .fieldA 23 (.t 3), none⟩, 
                            ⟨none, .store 1 (.t 53) (.t 52), none⟩] false)
                        (.seq
                          (.ops [⟨some 54, .load true 24 (.t 3), none⟩, 
                              ⟨none, .store 24 (.t 6) (.t 54), none⟩, 
                              ⟨some 7, .move (.c (.bool true)), none⟩] false)
                          (.ret))))))))))) }

/- sequitur/sequiturbase.Proof -/
def F27 : AF :=
  { ntmps := 64, results := [.tmp 4], pure := true, body :=
    .seq
      (.ops [⟨some 2, .box 42 (.t 0), none⟩, 
          ⟨some 3, .box 42 (.t 1), none⟩, 
          ⟨some 4, .move (.c (.bool false)), none⟩] false)
      (.seq
        (.seq
          (.ops [⟨some 5, .fieldA 0 (.t 2), none⟩, 
              ⟨some 6, .load false 1 (.t 5), none⟩, 
              ⟨some 7, .fieldA 0 (.t 3), none⟩, 
              ⟨some 8, .load false 1 (.t 7), none⟩, 
              ⟨some 9, .bin .neq (.t 6) (.t 8), none⟩, 
              ⟨some 10, .move (.t 9), none⟩, 
              ⟨some 11, .fieldA 1 (.t 2), some (10, false)⟩, 
              ⟨some 12, .load false 1 (.t 11), some (10, false)⟩, 
              ⟨some 13, .fieldA 1 (.t 3), some (10, false)⟩, 
              ⟨some 14, .load false 1 (.t 13), some (10, false)⟩, 
              ⟨some 15, .bin .neq (.t 12) (.t 14), some (10, false)⟩, 
              ⟨some 16, .pick (.t 10) (.c (.bool true)) (.t 15), none⟩, 
              ⟨some 17, .move (.t 16), none⟩, 
              ⟨some 18, .fieldA 2 (.t 2), some (17, false)⟩, 
              ⟨some 19, .load false 1 (.t 18), some (17, false)⟩, 
              ⟨some 20, .fieldA 2 (.t 3), some (17, false)⟩, 
              ⟨some 21, .load false 1 (.t 20), some (17, false)⟩, 
              ⟨some 22, .bin .neq (.t 19) (.t 21), some (17, false)⟩, 
              ⟨some 23, .pick (.t 17) (.c (.bool true)) (.t 22), none⟩, 
              ⟨some 24, .move (.t 23), none⟩, 
              ⟨some 25, .fieldA 3 (.t 2), some (24, false)⟩, 
              ⟨some 26, .load false 1 (.t 25), some (24, false)⟩, 
              ⟨some 27, .fieldA 3 (.t 3), some (24, false)⟩, 
              ⟨some 28, .load false 1 (.t 27), some (24, false)⟩, 
              ⟨some 29, .bin .neq (.t 26) (.t 28), some (24, false)⟩, 
              ⟨some 30, .pick (.t 24) (.c (.bool true)) (.t 29), none⟩, 
              ⟨some 31, .move (.t 30), none⟩, 
              ⟨some 32, .fieldA 4 (.t 2), some (31, false)⟩, 
              ⟨some 33, .load false 1 (.t 32), some (31, false)⟩, 
              ⟨some 34, .fieldA 4 (.t 3), some (31, false)⟩, 
              ⟨some 35, .load false 1 (.t 34), some (31, false)⟩, 
              ⟨some 36, .beq true (.t 33) (.t 35), some (31, false)⟩, 
              ⟨some 37, .pick (.t 31) (.c (.bool true)) (.t 36), none⟩] false)
          (.cond (.t 37)
            (.seq
              (.ops [⟨some 4, .move (.c (.bool false)), none⟩] false)
              (.ret))
            (.skip)))
        (.seq
          (.ops [⟨some 38, .fieldA 5 (.t 2), none⟩, 
              ⟨some 39, .load true 4 (.t 38), none⟩, 
              ⟨some 40, .fieldA 5 (.t 3), none⟩, 
              ⟨some 41, .load true 4 (.t 40), none⟩, 
              ⟨some 42, .call 62 [.t 39, .t 41], none⟩, 
              ⟨some 43, .move (.t 42), none⟩, 
              ⟨some 44, .fieldA 9 (.t 2), some (43, true)⟩, 
              ⟨some 45, .load true 5 (.t 44), some (43, true)⟩, 
              ⟨some 46, .fieldA 9 (.t 3), some (43, true)⟩, 
              ⟨some 47, .load true 5 (.t 46), some (43, true)⟩, 
              ⟨some 48, .call 63 [.t 45, .t 47], some (43, true)⟩, 
              ⟨some 49, .pick (.t 43) (.t 48) (.c (.bool false)), none⟩, 
              ⟨some 50, .move (.t 49), none⟩, 
              ⟨some 51, .fieldA 14 (.t 2), some (50, true)⟩, 
              ⟨some 52, .load true 9 (.t 51), some (50, true)⟩, 
              ⟨some 53, .fieldA 14 (.t 3), some (50, true)⟩, 
              ⟨some 54, .load true 9 (.t 53), some (50, true)⟩, 
              ⟨some 55, .call 64 [.t 52, .t 54], some (50, true)⟩, 
              ⟨some 56, .pick (.t 50) (.t 55) (.c (.bool false)), none⟩, 
              ⟨some 57, .move (.t 56), none⟩, 
              ⟨some 58, .fieldA 23 (.t 2), some (57, true)⟩, 
              ⟨some 59, .load false 1 (.t 58), some (57, true)⟩, 
              ⟨some 60, .fieldA 23 (.t 3), some (57, true)⟩, 
              ⟨some 61, .load false 1 (.t 60), some (57, true)⟩, 
              ⟨some 62, .call 65 [.t 59, .t 61], some (57, true)⟩, 
              ⟨some 63, .pick (.t 57) (.t 62) (.c (.bool false)), none⟩, 
              ⟨some 4, .move (.t 63), none⟩] false)
          (.ret))) }

/- sequitur/sequiturlaw38.apart -/
def L28_0 : AC :=
  .seq
    (.seq
      (.ops [⟨some 6, .move (.t 5), none⟩, 
          ⟨some 7, .move (.t 0), none⟩, 
          ⟨some 8, .len (.t 7), none⟩, 
          ⟨some 9, .bin .lss (.t 6) (.t 8), none⟩, 
          ⟨some 10, .move (.t 9), none⟩, 
          ⟨some 11, .move (.t 5), some (10, true)⟩, 
          ⟨some 12, .move (.t 1), some (10, true)⟩, 
          ⟨some 13, .len (.t 12), some (10, true)⟩, 
          ⟨some 14, .bin .lss (.t 11) (.t 13), some (10, true)⟩, 
          ⟨some 15, .pick (.t 10) (.t 14) (.c (.bool false)), none⟩] false)
      (.cond (.t 15)
        (.skip)
        (.exit 0)))
    (.seq
      (.block 1
        (.seq
          (.ops [⟨some 18, .move (.t 0), none⟩, 
              ⟨some 19, .move (.t 5), none⟩, 
              ⟨some 20, .idxA 1 (.t 18) (.t 19), none⟩, 
              ⟨some 21, .load false 1 (.t 20), none⟩, 
              ⟨some 22, .move (.t 1), none⟩, 
              ⟨some 23, .move (.t 5), none⟩, 
              ⟨some 24, .idxA 1 (.t 22) (.t 23), none⟩, 
              ⟨some 25, .load false 1 (.t 24), none⟩, 
              ⟨some 26, .bin .neq (.t 21) (.t 25), none⟩] true)
          (.cond (.t 26)
            (.seq
              (.ops [⟨some 4, .move (.c (.bool true)), none⟩] false)
              (.ret))
            (.skip))))
      (.ops [⟨some 16, .move (.t 5), none⟩, 
          ⟨some 17, .bin .add (.t 16) (.c (.int .i64 1)), none⟩, 
          ⟨some 5, .move (.t 17), none⟩] false))
def F28 : AF :=
  { ntmps := 27, results := [.tmp 4], pure := true, body :=
    .seq
      (.ops [⟨some 4, .move (.c (.bool false)), none⟩] false)
      (.seq
        (.seq
          (.ops [⟨some 5, .move (.c (.int .i64 0)), none⟩] false)
          (.block 0
            (.loop L28_0)))
        (.seq
          (.ops [⟨some 4, .move (.c (.bool false)), none⟩] false)
          (.ret))) }

/- sequitur/sequiturlaw38.weight -/
def L29_0 : AC :=
  .seq
    (.ops [⟨some 69, .bin .lss (.t 68) (.t 67), none⟩] false)
    (.seq
      (.cond (.t 69)
        (.skip)
        (.exit 0))
      (.seq
        (.block 1
          (.seq
            (.ops [⟨some 70, .idxA 2 (.t 66) (.t 68), none⟩, 
                ⟨some 71, .load true 2 (.t 70), none⟩, 
                ⟨some 7, .alloc 81 [.fsl 1 [], .fsl 1 []], none⟩, 
                ⟨none, .store 2 (.t 7) (.t 71), none⟩] false)
            (.seq
              (.ops [⟨some 72, .move (.t 5), none⟩, 
                  ⟨some 73, .fieldA 0 (.t 7), none⟩, 
                  ⟨some 74, .load false 1 (.t 73), none⟩, 
                  ⟨some 75, .len (.t 74), none⟩, 
                  ⟨some 76, .fieldA 1 (.t 7), none⟩, 
                  ⟨some 77, .load false 1 (.t 76), none⟩, 
                  ⟨some 78, .len (.t 77), none⟩, 
                  ⟨some 79, .bin .add (.t 75) (.t 78), none⟩, 
                  ⟨some 80, .bin .add (.t 72) (.t 79), none⟩, 
                  ⟨some 5, .move (.t 80), none⟩] false)
              (.seq
                (.ops [⟨some 81, .move (.t 5), none⟩, 
                    ⟨some 82, .move (.t 1), none⟩, 
                    ⟨some 83, .bin .gtr (.t 81) (.t 82), none⟩] false)
                (.cond (.t 83)
                  (.seq
                    (.ops [⟨some 84, .move (.t 5), none⟩, 
                        ⟨some 4, .move (.t 84), none⟩] false)
                    (.ret))
                  (.skip))))))
        (.ops [⟨some 85, .bin .add (.t 68) (.c (.int .i64 1)), none⟩, 
            ⟨some 68, .move (.t 85), none⟩] false)))

def L29_1 : AC :=
  .seq
    (.ops [⟨some 91, .bin .lss (.t 90) (.t 89), none⟩] false)
    (.seq
      (.cond (.t 91)
        (.skip)
        (.exit 2))
      (.seq
        (.block 3
          (.seq
            (.ops [⟨some 92, .idxA 8 (.t 88) (.t 90), none⟩, 
                ⟨some 93, .load true 8 (.t 92), none⟩, 
                ⟨some 9, .alloc 76 [.fsl 1 [], .int .i64 0, .fsl 1 [], .fsl 1 [], .int .i64 0, .int .i64 0, .fsl 2 [], .fsl 7 []], none⟩, 
                ⟨none, .store 8 (.t 9) (.t 93), none⟩] false)
            (.seq
              (.ops [⟨some 94, .move (.t 5), none⟩, 
                  ⟨some 95, .fieldA 0 (.t 9), none⟩, 
                  ⟨some 96, .load false 1 (.t 95), none⟩, 
                  ⟨some 97, .len (.t 96), none⟩, 
                  ⟨some 98, .fieldA 1 (.t 9), none⟩, 
                  ⟨some 99, .load true 7 (.t 98), none⟩, 
                  ⟨some 100, .move (.t 1), none⟩, 
                  ⟨some 101, .call 68 [.t 99, .t 100], none⟩, 
                  ⟨some 102, .bin .add (.t 97) (.t 101), none⟩, 
                  ⟨some 103, .bin .add (.t 94) (.t 102), none⟩, 
                  ⟨some 5, .move (.t 103), none⟩] true)
              (.seq
                (.ops [⟨some 104, .move (.t 5), none⟩, 
                    ⟨some 105, .move (.t 1), none⟩, 
                    ⟨some 106, .bin .gtr (.t 104) (.t 105), none⟩] false)
                (.cond (.t 106)
                  (.seq
                    (.ops [⟨some 107, .move (.t 5), none⟩, 
                        ⟨some 4, .move (.t 107), none⟩] false)
                    (.ret))
                  (.skip))))))
        (.ops [⟨some 108, .bin .add (.t 90) (.c (.int .i64 1)), none⟩, 
            ⟨some 90, .move (.t 108), none⟩] false)))

def L29_2 : AC :=
  .seq
    (.seq
      (.ops [⟨some 109, .move (.t 10), none⟩, 
          ⟨some 110, .fieldA 23 (.t 2), none⟩, 
          ⟨some 111, .load false 1 (.t 110), none⟩, 
          ⟨some 112, .len (.t 111), none⟩, 
          ⟨some 113, .bin .lss (.t 109) (.t 112), none⟩, 
          ⟨some 114, .move (.t 113), none⟩, 
          ⟨some 115, .move (.t 5), some (114, true)⟩, 
          ⟨some 116, .move (.t 1), some (114, true)⟩, 
          ⟨some 117, .bin .leq (.t 115) (.t 116), some (114, true)⟩, 
          ⟨some 118, .pick (.t 114) (.t 117) (.c (.bool false)), none⟩] false)
      (.cond (.t 118)
        (.skip)
        (.exit 4)))
    (.seq
      (.block 5
        (.ops [⟨some 121, .move (.t 5), none⟩, 
            ⟨some 122, .fieldA 23 (.t 2), none⟩, 
            ⟨some 123, .load false 1 (.t 122), none⟩, 
            ⟨some 124, .move (.t 10), none⟩, 
            ⟨some 125, .idxA 24 (.t 123) (.t 124), none⟩, 
            ⟨some 126, .load true 24 (.t 125), none⟩, 
            ⟨some 127, .move (.t 1), none⟩, 
            ⟨some 128, .move (.t 5), none⟩, 
            ⟨some 129, .bin .sub (.t 127) (.t 128), none⟩, 
            ⟨some 130, .call 29 [.t 126, .t 129], none⟩, 
            ⟨some 131, .bin .add (.t 121) (.t 130), none⟩, 
            ⟨some 5, .move (.t 131), none⟩] false))
      (.ops [⟨some 119, .move (.t 10), none⟩, 
          ⟨some 120, .bin .add (.t 119) (.c (.int .i64 1)), none⟩, 
          ⟨some 10, .move (.t 120), none⟩] false))
def F29 : AF :=
  { ntmps := 133, results := [.tmp 4], pure := true, body :=
    .seq
      (.ops [⟨some 2, .box 42 (.t 0), none⟩, 
          ⟨some 4, .move (.c (.int .i64 0)), none⟩] false)
      (.seq
        (.ops [⟨some 11, .fieldA 1 (.t 2), none⟩, 
            ⟨some 12, .load false 1 (.t 11), none⟩, 
            ⟨some 13, .lenS (.t 12), none⟩, 
            ⟨some 14, .bin .add (.c (.int .i64 1)) (.t 13), none⟩, 
            ⟨some 15, .fieldA 2 (.t 2), none⟩, 
            ⟨some 16, .load false 1 (.t 15), none⟩, 
            ⟨some 17, .lenS (.t 16), none⟩, 
            ⟨some 18, .bin .add (.t 14) (.t 17), none⟩, 
            ⟨some 19, .fieldA 3 (.t 2), none⟩, 
            ⟨some 20, .load false 1 (.t 19), none⟩, 
            ⟨some 21, .lenS (.t 20), none⟩, 
            ⟨some 22, .bin .add (.t 18) (.t 21), none⟩, 
            ⟨some 23, .fieldA 14 (.t 2), none⟩, 
            ⟨some 24, .fieldA 1 (.t 23), none⟩, 
            ⟨some 25, .load false 1 (.t 24), none⟩, 
            ⟨some 26, .len (.t 25), none⟩, 
            ⟨some 27, .bin .add (.t 22) (.t 26), none⟩, 
            ⟨some 28, .fieldA 14 (.t 2), none⟩, 
            ⟨some 29, .fieldA 0 (.t 28), none⟩, 
            ⟨some 30, .load false 1 (.t 29), none⟩, 
            ⟨some 31, .len (.t 30), none⟩, 
            ⟨some 32, .bin .add (.t 27) (.t 31), none⟩, 
            ⟨some 5, .move (.t 32), none⟩] false)
        (.seq
          (.seq
            (.ops [⟨some 33, .move (.t 5), none⟩, 
                ⟨some 34, .move (.t 1), none⟩, 
                ⟨some 35, .bin .gtr (.t 33) (.t 34), none⟩, 
                ⟨some 36, .move (.t 35), none⟩, 
                ⟨some 37, .fieldA 5 (.t 2), some (36, false)⟩, 
                ⟨some 38, .load true 4 (.t 37), some (36, false)⟩, 
                ⟨some 39, .move (.t 1), some (36, false)⟩, 
                ⟨some 40, .call 66 [.t 38, .t 39], some (36, false)⟩, 
                ⟨some 41, .move (.t 1), some (36, false)⟩, 
                ⟨some 42, .bin .gtr (.t 40) (.t 41), some (36, false)⟩, 
                ⟨some 43, .pick (.t 36) (.c (.bool true)) (.t 42), none⟩, 
                ⟨some 44, .move (.t 43), none⟩, 
                ⟨some 45, .fieldA 9 (.t 2), some (44, false)⟩, 
                ⟨some 46, .load true 5 (.t 45), some (44, false)⟩, 
                ⟨some 47, .move (.t 1), some (44, false)⟩, 
                ⟨some 48, .call 67 [.t 46, .t 47], some (44, false)⟩, 
                ⟨some 49, .pick (.t 44) (.c (.bool true)) (.t 48), none⟩] false)
            (.cond (.t 49)
              (.seq
                (.ops [⟨some 50, .move (.t 1), none⟩, 
                    ⟨some 51, .bin .add (.t 50) (.c (.int .i64 1)), none⟩, 
                    ⟨some 4, .move (.t 51), none⟩] false)
                (.ret))
              (.skip)))
          (.seq
            (.ops [⟨some 52, .move (.t 5), none⟩, 
                ⟨some 53, .fieldA 5 (.t 2), none⟩, 
                ⟨some 54, .load true 4 (.t 53), none⟩, 
                ⟨some 55, .move (.t 1), none⟩, 
                ⟨some 56, .call 66 [.t 54, .t 55], none⟩, 
                ⟨some 57, .fieldA 14 (.t 2), none⟩, 
                ⟨some 58, .fieldA 2 (.t 57), none⟩, 
                ⟨some 59, .load true 7 (.t 58), none⟩, 
                ⟨some 60, .move (.t 1), none⟩, 
                ⟨some 61, .call 68 [.t 59, .t 60], none⟩, 
                ⟨some 62, .bin .add (.t 56) (.t 61), none⟩, 
                ⟨some 63, .bin .add (.t 52) (.t 62), none⟩, 
                ⟨some 5, .move (.t 63), none⟩] true)
            (.seq
              (.seq
                (.ops [⟨some 64, .fieldA 14 (.t 2), none⟩, 
                    ⟨some 65, .fieldA 1 (.t 64), none⟩, 
                    ⟨some 66, .load false 1 (.t 65), none⟩, 
                    ⟨some 67, .len (.t 66), none⟩, 
                    ⟨some 68, .move (.c (.int .i64 0)), none⟩] false)
                (.block 0
                  (.loop L29_0)))
              (.seq
                (.seq
                  (.ops [⟨some 86, .fieldA 14 (.t 2), none⟩, 
                      ⟨some 87, .fieldA 0 (.t 86), none⟩, 
                      ⟨some 88, .load false 1 (.t 87), none⟩, 
                      ⟨some 89, .len (.t 88), none⟩, 
                      ⟨some 90, .move (.c (.int .i64 0)), none⟩] false)
                  (.block 2
                    (.loop L29_1)))
                (.seq
                  (.seq
                    (.ops [⟨some 10, .move (.c (.int .i64 0)), none⟩] false)
                    (.block 4
                      (.loop L29_2)))
                  (.seq
                    (.ops [⟨some 132, .move (.t 5), none⟩, 
                        ⟨some 4, .move (.t 132), none⟩] false)
                    (.ret)))))))) }

/- sequitur/proof.Right$1 -/
def F31 : AF :=
  { ntmps := 42, results := [.tmp 6], pure := false, body :=
    .seq
      (.ops [⟨some 4, .box 42 (.t 0), none⟩, 
          ⟨some 6, .move (.c (.bool false)), none⟩] false)
      (.seq
        (.block 0
          (.seq
            (.ops [⟨some 8, .fieldA 0 (.t 4), none⟩, 
                ⟨some 9, .load false 1 (.t 8), none⟩, 
                ⟨some 10, .bin .lss (.t 9) (.c (.int .i64 0)), none⟩, 
                ⟨some 11, .move (.t 10), none⟩, 
                ⟨some 12, .fieldA 0 (.t 4), some (11, false)⟩, 
                ⟨some 13, .load false 1 (.t 12), some (11, false)⟩, 
                ⟨some 14, .bin .geq (.t 13) (.c (.int .i64 28)), some (11, false)⟩, 
                ⟨some 15, .pick (.t 11) (.c (.bool true)) (.t 14), none⟩, 
                ⟨some 7, .move (.t 15), none⟩] false)
            (.cond (.t 7)
              (.ops [⟨none, .store 1 (.t 2) (.c (.int .i64 20)), none⟩] false)
              (.seq
                (.opsV [⟨some 17, .fieldA 23 (.t 4), none⟩, 
                    ⟨some 18, .load false 1 (.t 17), none⟩, 
                    ⟨some 19, .len (.t 18), none⟩, 
                    ⟨some 20, .fieldA 0 (.t 4), none⟩, 
                    ⟨some 21, .load false 1 (.t 20), none⟩, 
                    ⟨some 22, .idxArrA 28 2 (.g 0) (.t 21), none⟩, 
                    ⟨some 23, .fieldA 1 (.t 22), none⟩, 
                    ⟨some 24, .load false 1 (.t 23), none⟩, 
                    ⟨some 25, .bin .neq (.t 19) (.t 24), none⟩, 
                    ⟨some 16, .move (.t 25), none⟩])
                (.cond (.t 16)
                  (.ops [⟨none, .store 1 (.t 2) (.c (.int .i64 12)), none⟩] false)
                  (.seq
                    (.opsV [⟨some 27, .load true 24 (.t 4), none⟩, 
                        ⟨some 28, .call 32 [.t 27], none⟩, 
                        ⟨some 29, .fieldA 0 (.t 4), none⟩, 
                        ⟨some 30, .load false 1 (.t 29), none⟩, 
                        ⟨some 31, .idxArrA 28 2 (.g 0) (.t 30), none⟩, 
                        ⟨some 32, .fieldA 0 (.t 31), none⟩, 
                        ⟨some 33, .load false 1 (.t 32), none⟩, 
                        ⟨some 34, .bin .andNot (.t 28) (.t 33), none⟩, 
                        ⟨some 35, .bin .neq (.t 34) (.c (.int .i64 0)), none⟩, 
                        ⟨some 26, .move (.t 35), none⟩])
                    (.cond (.t 26)
                      (.ops [⟨none, .store 1 (.t 2) (.c (.int .i64 7)), none⟩] false)
                      (.skip))))))))
        (.seq
          (.seq
            (.ops [⟨some 36, .load false 1 (.t 2), none⟩, 
                ⟨some 37, .bin .neq (.t 36) (.c (.int .i64 0)), none⟩] false)
            (.cond (.t 37)
              (.ops [⟨some 38, .move (.t 1), none⟩, 
                  ⟨some 39, .call 33 [.t 38], none⟩, 
                  ⟨none, .store 1 (.t 3) (.t 39), none⟩] false)
              (.skip)))
          (.seq
            (.ops [⟨some 40, .load false 1 (.t 2), none⟩, 
                ⟨some 41, .bin .eql (.t 40) (.c (.int .i64 0)), none⟩, 
                ⟨some 6, .move (.t 41), none⟩] false)
            (.ret)))) }

/- sequitur/proof.used -/
def L32_0 : AC :=
  .seq
    (.ops [⟨some 61, .bin .lss (.t 60) (.t 59), none⟩] false)
    (.seq
      (.cond (.t 61)
        (.skip)
        (.exit 0))
      (.seq
        (.block 1
          (.seq
            (.ops [⟨some 62, .idxA 2 (.t 58) (.t 60), none⟩, 
                ⟨some 63, .load true 2 (.t 62), none⟩, 
                ⟨some 5, .alloc 99 [.bool false, .int .i64 0], none⟩, 
                ⟨none, .store 2 (.t 5) (.t 63), none⟩] false)
            (.seq
              (.ops [⟨some 64, .fieldA 0 (.t 5), none⟩, 
                  ⟨some 65, .load false 1 (.t 64), none⟩] false)
              (.cond (.t 65)
                (.ops [⟨some 66, .move (.t 3), none⟩, 
                    ⟨some 67, .fieldA 1 (.t 5), none⟩, 
                    ⟨some 68, .load false 1 (.t 67), none⟩, 
                    ⟨some 69, .bin .or (.t 66) (.t 68), none⟩, 
                    ⟨some 3, .move (.t 69), none⟩] false)
                (.skip)))))
        (.ops [⟨some 70, .bin .add (.t 60) (.c (.int .i64 1)), none⟩, 
            ⟨some 60, .move (.t 70), none⟩] false)))
def F32 : AF :=
  { ntmps := 72, results := [.tmp 2], pure := true, body :=
    .seq
      (.ops [⟨some 1, .box 42 (.t 0), none⟩, 
          ⟨some 2, .move (.c (.int .i64 0)), none⟩] false)
      (.seq
        (.ops [⟨some 3, .move (.c (.int .i64 0)), none⟩] false)
        (.seq
          (.seq
            (.ops [⟨some 6, .fieldA 1 (.t 1), none⟩, 
                ⟨some 7, .load false 1 (.t 6), none⟩, 
                ⟨some 8, .bin .neq (.t 7) (.c (.str ⟨#[]⟩)), none⟩, 
                ⟨some 9, .build [.bool false, .int .i64 0] [(0, 1, .t 8), (1, 1, .c (.int .i64 1))], none⟩, 
                ⟨some 10, .fieldA 2 (.t 1), none⟩, 
                ⟨some 11, .load false 1 (.t 10), none⟩, 
                ⟨some 12, .bin .neq (.t 11) (.c (.str ⟨#[]⟩)), none⟩, 
                ⟨some 13, .build [.bool false, .int .i64 0] [(0, 1, .t 12), (1, 1, .c (.int .i64 2))], none⟩, 
                ⟨some 14, .fieldA 3 (.t 1), none⟩, 
                ⟨some 15, .load false 1 (.t 14), none⟩, 
                ⟨some 16, .bin .neq (.t 15) (.c (.str ⟨#[]⟩)), none⟩, 
                ⟨some 17, .build [.bool false, .int .i64 0] [(0, 1, .t 16), (1, 1, .c (.int .i64 4))], none⟩, 
                ⟨some 18, .fieldA 4 (.t 1), none⟩, 
                ⟨some 19, .load false 1 (.t 18), none⟩, 
                ⟨some 20, .build [.bool false, .int .i64 0] [(0, 1, .t 19), (1, 1, .c (.int .i64 8))], none⟩, 
                ⟨some 21, .fieldA 5 (.t 1), none⟩, 
                ⟨some 22, .load true 4 (.t 21), none⟩, 
                ⟨some 23, .build [.int .i64 0, .str ⟨#[]⟩, .int .i64 0, .fsl 4 []] [], none⟩, 
                ⟨some 24, .call 51 [.t 22, .t 23], none⟩, 
                ⟨some 25, .not (.t 24), none⟩, 
                ⟨some 26, .build [.bool false, .int .i64 0] [(0, 1, .t 25), (1, 1, .c (.int .i64 16))], none⟩, 
                ⟨some 27, .fieldA 9 (.t 1), none⟩, 
                ⟨some 28, .load true 5 (.t 27), none⟩, 
                ⟨some 29, .build [.int .i64 0, .str ⟨#[]⟩, .str ⟨#[]⟩, .fsl 4 [], .fsl 5 []] [], none⟩, 
                ⟨some 30, .call 52 [.t 28, .t 29], none⟩, 
                ⟨some 31, .not (.t 30), none⟩, 
                ⟨some 32, .move (.t 31), none⟩, 
                ⟨some 33, .fieldA 9 (.t 1), some (32, false)⟩, 
                ⟨some 34, .fieldA 1 (.t 33), some (32, false)⟩, 
                ⟨some 35, .load false 1 (.t 34), some (32, false)⟩, 
                ⟨some 36, .bin .neq (.t 35) (.c (.str ⟨#[]⟩)), some (32, false)⟩, 
                ⟨some 37, .pick (.t 32) (.c (.bool true)) (.t 36), none⟩, 
                ⟨some 38, .build [.bool false, .int .i64 0] [(0, 1, .t 37), (1, 1, .c (.int .i64 32))], none⟩, 
                ⟨some 39, .fieldA 14 (.t 1), none⟩, 
                ⟨some 40, .fieldA 1 (.t 39), none⟩, 
                ⟨some 41, .load false 1 (.t 40), none⟩, 
                ⟨some 42, .len (.t 41), none⟩, 
                ⟨some 43, .bin .gtr (.t 42) (.c (.int .i64 0)), none⟩, 
                ⟨some 44, .build [.bool false, .int .i64 0] [(0, 1, .t 43), (1, 1, .c (.int .i64 64))], none⟩, 
                ⟨some 45, .fieldA 14 (.t 1), none⟩, 
                ⟨some 46, .fieldA 0 (.t 45), none⟩, 
                ⟨some 47, .load false 1 (.t 46), none⟩, 
                ⟨some 48, .len (.t 47), none⟩, 
                ⟨some 49, .bin .gtr (.t 48) (.c (.int .i64 0)), none⟩, 
                ⟨some 50, .build [.bool false, .int .i64 0] [(0, 1, .t 49), (1, 1, .c (.int .i64 128))], none⟩, 
                ⟨some 51, .fieldA 14 (.t 1), none⟩, 
                ⟨some 52, .fieldA 2 (.t 51), none⟩, 
                ⟨some 53, .load true 7 (.t 52), none⟩, 
                ⟨some 54, .build [.int .i64 0, .fsl 1 [], .fsl 1 [], .int .i64 0, .int .i64 0, .fsl 2 [], .fsl 7 []] [], none⟩, 
                ⟨some 55, .call 57 [.t 53, .t 54], none⟩, 
                ⟨some 56, .not (.t 55), none⟩, 
                ⟨some 57, .build [.bool false, .int .i64 0] [(0, 1, .t 56), (1, 1, .c (.int .i64 256))], none⟩, 
                ⟨some 58, .buildSl 2 [.bool false, .int .i64 0] 9 [(0, .t 9), (1, .t 13), (2, .t 17), (3, .t 20), (4, .t 26), (5, .t 38), (6, .t 44), (7, .t 50), (8, .t 57)], none⟩, 
                ⟨some 59, .len (.t 58), none⟩, 
                ⟨some 60, .move (.c (.int .i64 0)), none⟩] true)
            (.block 0
              (.loop L32_0)))
          (.seq
            (.ops [⟨some 71, .move (.t 3), none⟩, 
                ⟨some 2, .move (.t 71), none⟩] false)
            (.ret)))) }

/- sequitur/proof.Size$1 -/
def L35_0 : AC :=
  .seq
    (.ops [⟨some 12, .bin .lss (.t 11) (.t 10), none⟩] false)
    (.seq
      (.cond (.t 12)
        (.skip)
        (.exit 0))
      (.seq
        (.block 1
          (.seq
            (.ops [⟨some 13, .idxA 24 (.t 9) (.t 11), none⟩, 
                ⟨some 14, .load true 24 (.t 13), none⟩, 
                ⟨some 5, .alloc 42 [.int .i64 0, .str ⟨#[]⟩, .str ⟨#[]⟩, .str ⟨#[]⟩, .bool false, .int .i64 0, .str ⟨#[]⟩, .int .i64 0, .fsl 4 [], .int .i64 0, .str ⟨#[]⟩, .str ⟨#[]⟩, .fsl 4 [], .fsl 5 [], .fsl 8 [], .fsl 2 [], .int .i64 0, .fsl 1 [], .fsl 1 [], .int .i64 0, .int .i64 0, .fsl 2 [], .fsl 7 [], .fsl 24 []], none⟩, 
                ⟨none, .store 24 (.t 5) (.t 14), none⟩] false)
            (.seq
              (.ops [⟨some 15, .load false 1 (.t 1), none⟩, 
                  ⟨some 16, .bin .leq (.t 15) (.c (.int .i64 4096)), none⟩] false)
              (.cond (.t 16)
                (.ops [⟨some 17, .load false 1 (.t 2), none⟩, 
                    ⟨some 18, .load true 24 (.t 5), none⟩, 
                    ⟨some 19, .callv (.t 17) [.t 18], none⟩] false)
                (.skip)))))
        (.ops [⟨some 20, .bin .add (.t 11) (.c (.int .i64 1)), none⟩, 
            ⟨some 11, .move (.t 20), none⟩] false)))
def F35 : AF :=
  { ntmps := 21, results := [], pure := false, body :=
    .seq
      (.ops [⟨some 3, .box 42 (.t 0), none⟩] false)
      (.seq
        (.ops [⟨some 6, .load false 1 (.t 1), none⟩, 
            ⟨some 7, .bin .add (.t 6) (.c (.int .i64 1)), none⟩, 
            ⟨none, .store 1 (.t 1) (.t 7), none⟩] false)
        (.seq
          (.ops [⟨some 8, .fieldA 23 (.t 3), none⟩, 
              ⟨some 9, .load false 1 (.t 8), none⟩, 
              ⟨some 10, .len (.t 9), none⟩, 
              ⟨some 11, .move (.c (.int .i64 0)), none⟩] false)
          (.block 0
            (.loop L35_0)))) }

/- sequitur/proof.deep -/
def L37_0 : AC :=
  .seq
    (.ops [⟨some 12, .bin .lss (.t 11) (.t 10), none⟩] false)
    (.seq
      (.cond (.t 12)
        (.skip)
        (.exit 0))
      (.seq
        (.block 1
          (.seq
            (.ops [⟨some 13, .idxA 24 (.t 9) (.t 11), none⟩, 
                ⟨some 14, .load true 24 (.t 13), none⟩, 
                ⟨some 7, .alloc 42 [.int .i64 0, .str ⟨#[]⟩, .str ⟨#[]⟩, .str ⟨#[]⟩, .bool false, .int .i64 0, .str ⟨#[]⟩, .int .i64 0, .fsl 4 [], .int .i64 0, .str ⟨#[]⟩, .str ⟨#[]⟩, .fsl 4 [], .fsl 5 [], .fsl 8 [], .fsl 2 [], .int .i64 0, .fsl 1 [], .fsl 1 [], .int .i64 0, .int .i64 0, .fsl 2 [], .fsl 7 [], .fsl 24 []], none⟩, 
                ⟨none, .store 24 (.t 7) (.t 14), none⟩] false)
            (.seq
              (.ops [⟨some 15, .move (.t 1), none⟩, 
                  ⟨some 16, .bin .gtr (.t 15) (.c (.int .i64 1)), none⟩] false)
              (.cond (.t 16)
                (.ops [⟨some 17, .move (.t 5), none⟩, 
                    ⟨some 18, .load true 24 (.t 7), none⟩, 
                    ⟨some 19, .move (.t 1), none⟩, 
                    ⟨some 20, .bin .sub (.t 19) (.c (.int .i64 1)), none⟩, 
                    ⟨some 21, .call 37 [.t 18, .t 20], none⟩, 
                    ⟨some 22, .bin .add (.c (.int .i64 1)) (.t 21), none⟩, 
                    ⟨some 23, .max2 (.t 17) (.t 22), none⟩, 
                    ⟨some 5, .move (.t 23), none⟩] false)
                (.skip)))))
        (.ops [⟨some 24, .bin .add (.t 11) (.c (.int .i64 1)), none⟩, 
            ⟨some 11, .move (.t 24), none⟩] false)))
def F37 : AF :=
  { ntmps := 26, results := [.tmp 4], pure := true, body :=
    .seq
      (.ops [⟨some 2, .box 42 (.t 0), none⟩, 
          ⟨some 4, .move (.c (.int .i64 0)), none⟩] false)
      (.seq
        (.ops [⟨some 5, .move (.c (.int .i64 1)), none⟩] false)
        (.seq
          (.seq
            (.ops [⟨some 8, .fieldA 23 (.t 2), none⟩, 
                ⟨some 9, .load false 1 (.t 8), none⟩, 
                ⟨some 10, .len (.t 9), none⟩, 
                ⟨some 11, .move (.c (.int .i64 0)), none⟩] false)
            (.block 0
              (.loop L37_0)))
          (.seq
            (.ops [⟨some 25, .move (.t 5), none⟩, 
                ⟨some 4, .move (.t 25), none⟩] false)
            (.ret)))) }

/- sequitur/term.Copy -/
def F42 : AF :=
  { ntmps := 5, results := [.cell 2 true 4], pure := true, body :=
    .seq
      (.ops [⟨some 1, .box 24 (.t 0), none⟩, 
          ⟨some 2, .alloc 24 [.int .i64 0, .str ⟨#[]⟩, .int .i64 0, .fsl 4 []], none⟩] false)
      (.seq
        (.ops [⟨some 3, .load true 4 (.t 1), none⟩, 
            ⟨some 4, .call 74 [.t 3, .f 42], none⟩, 
            ⟨none, .store 4 (.t 2) (.t 4), none⟩] false)
        (.ret)) }

/- sequitur/claim.Copy -/
def L43_0 : AC :=
  .seq
    (.ops [⟨some 19, .bin .lss (.t 18) (.t 17), none⟩] false)
    (.seq
      (.cond (.t 19)
        (.skip)
        (.exit 0))
      (.seq
        (.block 1
          (.seq
            (.ops [⟨some 20, .idxA 4 (.t 16) (.t 18), none⟩, 
                ⟨some 21, .load true 4 (.t 20), none⟩, 
                ⟨some 5, .alloc 24 [.int .i64 0, .str ⟨#[]⟩, .int .i64 0, .fsl 4 []], none⟩, 
                ⟨none, .store 4 (.t 5) (.t 21), none⟩] false)
            (.ops [⟨some 22, .fieldA 3 (.t 3), none⟩, 
                ⟨some 23, .load false 1 (.t 22), none⟩, 
                ⟨some 24, .load true 4 (.t 5), none⟩, 
                ⟨some 25, .call 42 [.t 24], none⟩, 
                ⟨some 26, .buildSl 4 [.int .i64 0, .str ⟨#[]⟩, .int .i64 0, .fsl 4 []] 1 [(0, .t 25)], none⟩, 
                ⟨some 27, .append 24 4 56 (.t 23) (.t 26), none⟩, 
                ⟨some 28, .fieldA 3 (.t 3), none⟩, 
                ⟨none, .store 1 (.t 28) (.t 27), none⟩] true)))
        (.ops [⟨some 29, .bin .add (.t 18) (.c (.int .i64 1)), none⟩, 
            ⟨some 18, .move (.t 29), none⟩] false)))

def L43_1 : AC :=
  .seq
    (.ops [⟨some 34, .bin .lss (.t 33) (.t 32), none⟩] false)
    (.seq
      (.cond (.t 34)
        (.skip)
        (.exit 2))
      (.seq
        (.block 3
          (.seq
            (.ops [⟨some 35, .idxA 5 (.t 31) (.t 33), none⟩, 
                ⟨some 36, .load true 5 (.t 35), none⟩, 
                ⟨some 7, .alloc 27 [.int .i64 0, .str ⟨#[]⟩, .str ⟨#[]⟩, .fsl 4 [], .fsl 5 []], none⟩, 
                ⟨none, .store 5 (.t 7) (.t 36), none⟩] false)
            (.ops [⟨some 37, .fieldA 4 (.t 3), none⟩, 
                ⟨some 38, .load false 1 (.t 37), none⟩, 
                ⟨some 39, .load true 5 (.t 7), none⟩, 
                ⟨some 40, .call 43 [.t 39], none⟩, 
                ⟨some 41, .buildSl 5 [.int .i64 0, .str ⟨#[]⟩, .str ⟨#[]⟩, .fsl 4 [], .fsl 5 []] 1 [(0, .t 40)], none⟩, 
                ⟨some 42, .append 27 5 88 (.t 38) (.t 41), none⟩, 
                ⟨some 43, .fieldA 4 (.t 3), none⟩, 
                ⟨none, .store 1 (.t 43) (.t 42), none⟩] true)))
        (.ops [⟨some 44, .bin .add (.t 33) (.c (.int .i64 1)), none⟩, 
            ⟨some 33, .move (.t 44), none⟩] false)))
def F43 : AF :=
  { ntmps := 46, results := [.cell 2 true 5], pure := true, body :=
    .seq
      (.ops [⟨some 1, .box 27 (.t 0), none⟩, 
          ⟨some 2, .alloc 27 [.int .i64 0, .str ⟨#[]⟩, .str ⟨#[]⟩, .fsl 4 [], .fsl 5 []], none⟩] false)
      (.seq
        (.ops [⟨some 8, .fieldA 0 (.t 1), none⟩, 
            ⟨some 9, .load false 1 (.t 8), none⟩, 
            ⟨some 10, .fieldA 1 (.t 1), none⟩, 
            ⟨some 11, .load false 1 (.t 10), none⟩, 
            ⟨some 12, .fieldA 2 (.t 1), none⟩, 
            ⟨some 13, .load false 1 (.t 12), none⟩, 
            ⟨some 14, .build [.int .i64 0, .str ⟨#[]⟩, .str ⟨#[]⟩, .fsl 4 [], .fsl 5 []] [(0, 1, .t 9), (1, 1, .t 11), (2, 1, .t 13)], none⟩, 
            ⟨some 3, .alloc 27 [.int .i64 0, .str ⟨#[]⟩, .str ⟨#[]⟩, .fsl 4 [], .fsl 5 []], none⟩, 
            ⟨none, .store 5 (.t 3) (.t 14), none⟩] false)
        (.seq
          (.seq
            (.ops [⟨some 15, .fieldA 3 (.t 1), none⟩, 
                ⟨some 16, .load false 1 (.t 15), none⟩, 
                ⟨some 17, .len (.t 16), none⟩, 
                ⟨some 18, .move (.c (.int .i64 0)), none⟩] false)
            (.block 0
              (.loop L43_0)))
          (.seq
            (.seq
              (.ops [⟨some 30, .fieldA 4 (.t 1), none⟩, 
                  ⟨some 31, .load false 1 (.t 30), none⟩, 
                  ⟨some 32, .len (.t 31), none⟩, 
                  ⟨some 33, .move (.c (.int .i64 0)), none⟩] false)
              (.block 2
                (.loop L43_1)))
            (.seq
              (.ops [⟨some 45, .load true 5 (.t 3), none⟩, 
                  ⟨none, .store 5 (.t 2) (.t 45), none⟩] false)
              (.ret))))) }

/- sequitur/proof.each[sequitur/api.Lemma] -/
def L44_0 : AC :=
  .seq
    (.ops [⟨some 11, .bin .lss (.t 10) (.t 9), none⟩] false)
    (.seq
      (.cond (.t 11)
        (.skip)
        (.exit 0))
      (.seq
        (.block 1
          (.seq
            (.ops [⟨some 12, .idxA 8 (.t 8) (.t 10), none⟩, 
                ⟨some 13, .load true 8 (.t 12), none⟩, 
                ⟨some 7, .alloc 76 [.fsl 1 [], .int .i64 0, .fsl 1 [], .fsl 1 [], .int .i64 0, .int .i64 0, .fsl 2 [], .fsl 7 []], none⟩, 
                ⟨none, .store 8 (.t 7) (.t 13), none⟩] false)
            (.ops [⟨some 14, .move (.t 5), none⟩, 
                ⟨some 15, .move (.t 1), none⟩, 
                ⟨some 16, .load true 8 (.t 7), none⟩, 
                ⟨some 17, .callv (.t 15) [.t 16], none⟩, 
                ⟨some 18, .buildSl 8 [.fsl 1 [], .int .i64 0, .fsl 1 [], .fsl 1 [], .int .i64 0, .int .i64 0, .fsl 2 [], .fsl 7 []] 1 [(0, .t 17)], none⟩, 
                ⟨some 19, .append 76 8 144 (.t 14) (.t 18), none⟩, 
                ⟨some 5, .move (.t 19), none⟩] false)))
        (.ops [⟨some 20, .bin .add (.t 10) (.c (.int .i64 1)), none⟩, 
            ⟨some 10, .move (.t 20), none⟩] false)))
def F44 : AF :=
  { ntmps := 22, results := [.tmp 4], pure := true, body :=
    .seq
      (.ops [⟨some 4, .move (.c (.fsl 8 [])), none⟩] false)
      (.seq
        (.ops [⟨some 5, .move (.c (.fsl 8 [])), none⟩] false)
        (.seq
          (.seq
            (.ops [⟨some 8, .move (.t 0), none⟩, 
                ⟨some 9, .len (.t 8), none⟩, 
                ⟨some 10, .move (.c (.int .i64 0)), none⟩] false)
            (.block 0
              (.loop L44_0)))
          (.seq
            (.ops [⟨some 21, .move (.t 5), none⟩, 
                ⟨some 4, .move (.t 21), none⟩] false)
            (.ret)))) }

/- sequitur/proof.Copy$1 -/
def F45 : AF :=
  { ntmps := 10, results := [.cell 2 true 8], pure := true, body :=
    .seq
      (.ops [⟨some 1, .box 76 (.t 0), none⟩, 
          ⟨some 2, .alloc 76 [.fsl 1 [], .int .i64 0, .fsl 1 [], .fsl 1 [], .int .i64 0, .int .i64 0, .fsl 2 [], .fsl 7 []], none⟩] false)
      (.seq
        (.opsV [⟨some 3, .fieldA 0 (.t 1), none⟩, 
            ⟨some 4, .load false 1 (.t 3), none⟩, 
            ⟨some 5, .call 33 [.t 4], none⟩, 
            ⟨some 6, .fieldA 1 (.t 1), none⟩, 
            ⟨some 7, .load true 7 (.t 6), none⟩, 
            ⟨some 8, .call 46 [.t 7], none⟩, 
            ⟨some 9, .build [.fsl 1 [], .int .i64 0, .fsl 1 [], .fsl 1 [], .int .i64 0, .int .i64 0, .fsl 2 [], .fsl 7 []] [(0, 1, .t 5), (1, 7, .t 8)], none⟩, 
            ⟨none, .store 8 (.t 2) (.t 9), none⟩])
        (.ret)) }

/- sequitur/proof.copyCut -/
def F46 : AF :=
  { ntmps := 22, results := [.cell 2 true 7], pure := true, body :=
    .seq
      (.ops [⟨some 1, .box 37 (.t 0), none⟩, 
          ⟨some 2, .alloc 37 [.int .i64 0, .fsl 1 [], .fsl 1 [], .int .i64 0, .int .i64 0, .fsl 2 [], .fsl 7 []], none⟩] false)
      (.seq
        (.opsV [⟨some 3, .fieldA 1 (.t 1), none⟩, 
            ⟨some 4, .load false 1 (.t 3), none⟩, 
            ⟨some 5, .call 33 [.t 4], none⟩, 
            ⟨some 6, .fieldA 2 (.t 1), none⟩, 
            ⟨some 7, .load false 1 (.t 6), none⟩, 
            ⟨some 8, .call 75 [.t 7], none⟩, 
            ⟨some 9, .fieldA 4 (.t 1), none⟩, 
            ⟨some 10, .fieldA 1 (.t 9), none⟩, 
            ⟨some 11, .load false 1 (.t 10), none⟩, 
            ⟨some 12, .call 76 [.t 11], none⟩, 
            ⟨some 13, .fieldA 1 (.t 1), none⟩, 
            ⟨none, .store 1 (.t 13) (.t 5), none⟩, 
            ⟨some 14, .fieldA 2 (.t 1), none⟩, 
            ⟨none, .store 1 (.t 14) (.t 8), none⟩, 
            ⟨some 15, .fieldA 4 (.t 1), none⟩, 
            ⟨some 16, .fieldA 1 (.t 15), none⟩, 
            ⟨none, .store 1 (.t 16) (.t 12), none⟩])
        (.seq
          (.ops [⟨some 17, .fieldA 6 (.t 1), none⟩, 
              ⟨some 18, .load false 1 (.t 17), none⟩, 
              ⟨some 19, .call 77 [.t 18, .f 46], none⟩, 
              ⟨some 20, .fieldA 6 (.t 1), none⟩, 
              ⟨none, .store 1 (.t 20) (.t 19), none⟩] false)
          (.seq
            (.ops [⟨some 21, .load true 7 (.t 1), none⟩, 
                ⟨none, .store 7 (.t 2) (.t 21), none⟩] false)
            (.ret)))) }

/- sequitur/proof.each[sequitur/api.Chain] -/
def L47_0 : AC :=
  .seq
    (.ops [⟨some 11, .bin .lss (.t 10) (.t 9), none⟩] false)
    (.seq
      (.cond (.t 11)
        (.skip)
        (.exit 0))
      (.seq
        (.block 1
          (.seq
            (.ops [⟨some 12, .idxA 2 (.t 8) (.t 10), none⟩, 
                ⟨some 13, .load true 2 (.t 12), none⟩, 
                ⟨some 7, .alloc 81 [.fsl 1 [], .fsl 1 []], none⟩, 
                ⟨none, .store 2 (.t 7) (.t 13), none⟩] false)
            (.ops [⟨some 14, .move (.t 5), none⟩, 
                ⟨some 15, .move (.t 1), none⟩, 
                ⟨some 16, .load true 2 (.t 7), none⟩, 
                ⟨some 17, .callv (.t 15) [.t 16], none⟩, 
                ⟨some 18, .buildSl 2 [.fsl 1 [], .fsl 1 []] 1 [(0, .t 17)], none⟩, 
                ⟨some 19, .append 81 2 48 (.t 14) (.t 18), none⟩, 
                ⟨some 5, .move (.t 19), none⟩] false)))
        (.ops [⟨some 20, .bin .add (.t 10) (.c (.int .i64 1)), none⟩, 
            ⟨some 10, .move (.t 20), none⟩] false)))
def F47 : AF :=
  { ntmps := 22, results := [.tmp 4], pure := true, body :=
    .seq
      (.ops [⟨some 4, .move (.c (.fsl 2 [])), none⟩] false)
      (.seq
        (.ops [⟨some 5, .move (.c (.fsl 2 [])), none⟩] false)
        (.seq
          (.seq
            (.ops [⟨some 8, .move (.t 0), none⟩, 
                ⟨some 9, .len (.t 8), none⟩, 
                ⟨some 10, .move (.c (.int .i64 0)), none⟩] false)
            (.block 0
              (.loop L47_0)))
          (.seq
            (.ops [⟨some 21, .move (.t 5), none⟩, 
                ⟨some 4, .move (.t 21), none⟩] false)
            (.ret)))) }

/- sequitur/proof.Copy$2 -/
def F48 : AF :=
  { ntmps := 10, results := [.cell 2 true 2], pure := true, body :=
    .seq
      (.ops [⟨some 1, .box 81 (.t 0), none⟩, 
          ⟨some 2, .alloc 81 [.fsl 1 [], .fsl 1 []], none⟩] false)
      (.seq
        (.opsV [⟨some 3, .fieldA 0 (.t 1), none⟩, 
            ⟨some 4, .load false 1 (.t 3), none⟩, 
            ⟨some 5, .call 33 [.t 4], none⟩, 
            ⟨some 6, .fieldA 1 (.t 1), none⟩, 
            ⟨some 7, .load false 1 (.t 6), none⟩, 
            ⟨some 8, .call 33 [.t 7], none⟩, 
            ⟨some 9, .build [.fsl 1 [], .fsl 1 []] [(0, 1, .t 5), (1, 1, .t 8)], none⟩, 
            ⟨none, .store 2 (.t 2) (.t 9), none⟩])
        (.ret)) }

/- sequitur/proof.each[sequitur/api.Proof] -/
def L49_0 : AC :=
  .seq
    (.ops [⟨some 11, .bin .lss (.t 10) (.t 9), none⟩] false)
    (.seq
      (.cond (.t 11)
        (.skip)
        (.exit 0))
      (.seq
        (.block 1
          (.seq
            (.ops [⟨some 12, .idxA 24 (.t 8) (.t 10), none⟩, 
                ⟨some 13, .load true 24 (.t 12), none⟩, 
                ⟨some 7, .alloc 42 [.int .i64 0, .str ⟨#[]⟩, .str ⟨#[]⟩, .str ⟨#[]⟩, .bool false, .int .i64 0, .str ⟨#[]⟩, .int .i64 0, .fsl 4 [], .int .i64 0, .str ⟨#[]⟩, .str ⟨#[]⟩, .fsl 4 [], .fsl 5 [], .fsl 8 [], .fsl 2 [], .int .i64 0, .fsl 1 [], .fsl 1 [], .int .i64 0, .int .i64 0, .fsl 2 [], .fsl 7 [], .fsl 24 []], none⟩, 
                ⟨none, .store 24 (.t 7) (.t 13), none⟩] false)
            (.ops [⟨some 14, .move (.t 5), none⟩, 
                ⟨some 15, .move (.t 1), none⟩, 
                ⟨some 16, .load true 24 (.t 7), none⟩, 
                ⟨some 17, .callv (.t 15) [.t 16], none⟩, 
                ⟨some 18, .buildSl 24 [.int .i64 0, .str ⟨#[]⟩, .str ⟨#[]⟩, .str ⟨#[]⟩, .bool false, .int .i64 0, .str ⟨#[]⟩, .int .i64 0, .fsl 4 [], .int .i64 0, .str ⟨#[]⟩, .str ⟨#[]⟩, .fsl 4 [], .fsl 5 [], .fsl 8 [], .fsl 2 [], .int .i64 0, .fsl 1 [], .fsl 1 [], .int .i64 0, .int .i64 0, .fsl 2 [], .fsl 7 [], .fsl 24 []] 1 [(0, .t 17)], none⟩, 
                ⟨some 19, .append 42 24 400 (.t 14) (.t 18), none⟩, 
                ⟨some 5, .move (.t 19), none⟩] false)))
        (.ops [⟨some 20, .bin .add (.t 10) (.c (.int .i64 1)), none⟩, 
            ⟨some 10, .move (.t 20), none⟩] false)))
def F49 : AF :=
  { ntmps := 22, results := [.tmp 4], pure := true, body :=
    .seq
      (.ops [⟨some 4, .move (.c (.fsl 24 [])), none⟩] false)
      (.seq
        (.ops [⟨some 5, .move (.c (.fsl 24 [])), none⟩] false)
        (.seq
          (.seq
            (.ops [⟨some 8, .move (.t 0), none⟩, 
                ⟨some 9, .len (.t 8), none⟩, 
                ⟨some 10, .move (.c (.int .i64 0)), none⟩] false)
            (.block 0
              (.loop L49_0)))
          (.seq
            (.ops [⟨some 21, .move (.t 5), none⟩, 
                ⟨some 4, .move (.t 21), none⟩] false)
            (.ret)))) }

/- sequitur/sequiturbase.Exact -/
def F50 : AF :=
  { ntmps := 38, results := [.tmp 4], pure := true, body :=
    .seq
      (.ops [⟨some 2, .box 27 (.t 0), none⟩, 
          ⟨some 3, .box 27 (.t 1), none⟩, 
          ⟨some 4, .move (.c (.bool false)), none⟩] false)
      (.seq
        (.ops [⟨some 5, .fieldA 0 (.t 2), none⟩, 
            ⟨some 6, .load false 1 (.t 5), none⟩, 
            ⟨some 7, .fieldA 0 (.t 3), none⟩, 
            ⟨some 8, .load false 1 (.t 7), none⟩, 
            ⟨some 9, .bin .eql (.t 6) (.t 8), none⟩, 
            ⟨some 10, .move (.t 9), none⟩, 
            ⟨some 11, .fieldA 2 (.t 2), some (10, true)⟩, 
            ⟨some 12, .load false 1 (.t 11), some (10, true)⟩, 
            ⟨some 13, .fieldA 2 (.t 3), some (10, true)⟩, 
            ⟨some 14, .load false 1 (.t 13), some (10, true)⟩, 
            ⟨some 15, .bin .eql (.t 12) (.t 14), some (10, true)⟩, 
            ⟨some 16, .pick (.t 10) (.t 15) (.c (.bool false)), none⟩, 
            ⟨some 17, .move (.t 16), none⟩, 
            ⟨some 18, .fieldA 1 (.t 2), some (17, true)⟩, 
            ⟨some 19, .load false 1 (.t 18), some (17, true)⟩, 
            ⟨some 20, .fieldA 1 (.t 3), some (17, true)⟩, 
            ⟨some 21, .load false 1 (.t 20), some (17, true)⟩, 
            ⟨some 22, .bin .eql (.t 19) (.t 21), some (17, true)⟩, 
            ⟨some 23, .pick (.t 17) (.t 22) (.c (.bool false)), none⟩, 
            ⟨some 24, .move (.t 23), none⟩, 
            ⟨some 25, .fieldA 3 (.t 2), some (24, true)⟩, 
            ⟨some 26, .load false 1 (.t 25), some (24, true)⟩, 
            ⟨some 27, .fieldA 3 (.t 3), some (24, true)⟩, 
            ⟨some 28, .load false 1 (.t 27), some (24, true)⟩, 
            ⟨some 29, .call 78 [.t 26, .t 28], some (24, true)⟩, 
            ⟨some 30, .pick (.t 24) (.t 29) (.c (.bool false)), none⟩, 
            ⟨some 31, .move (.t 30), none⟩, 
            ⟨some 32, .fieldA 4 (.t 2), some (31, true)⟩, 
            ⟨some 33, .load false 1 (.t 32), some (31, true)⟩, 
            ⟨some 34, .fieldA 4 (.t 3), some (31, true)⟩, 
            ⟨some 35, .load false 1 (.t 34), some (31, true)⟩, 
            ⟨some 36, .call 79 [.t 33, .t 35], some (31, true)⟩, 
            ⟨some 37, .pick (.t 31) (.t 36) (.c (.bool false)), none⟩, 
            ⟨some 4, .move (.t 37), none⟩] false)
        (.ret)) }

/- sequitur/term.Same -/
def F51 : AF :=
  { ntmps := 9, results := [.tmp 4], pure := true, body :=
    .seq
      (.ops [⟨some 2, .box 24 (.t 0), none⟩, 
          ⟨some 3, .box 24 (.t 1), none⟩, 
          ⟨some 4, .move (.c (.bool false)), none⟩] false)
      (.seq
        (.ops [⟨some 5, .load true 4 (.t 2), none⟩, 
            ⟨some 6, .load true 4 (.t 3), none⟩, 
            ⟨some 7, .call 80 [.t 5, .t 6], none⟩, 
            ⟨some 8, .bin .eql (.t 7) (.c (.int .i64 0)), none⟩, 
            ⟨some 4, .move (.t 8), none⟩] false)
        (.ret)) }

/- sequitur/claim.Same -/
def F52 : AF :=
  { ntmps := 9, results := [.tmp 4], pure := true, body :=
    .seq
      (.ops [⟨some 2, .box 27 (.t 0), none⟩, 
          ⟨some 3, .box 27 (.t 1), none⟩, 
          ⟨some 4, .move (.c (.bool false)), none⟩] false)
      (.seq
        (.ops [⟨some 5, .load true 5 (.t 2), none⟩, 
            ⟨some 6, .load true 5 (.t 3), none⟩, 
            ⟨some 7, .call 81 [.t 5, .t 6], none⟩, 
            ⟨some 8, .bin .eql (.t 7) (.c (.int .i64 0)), none⟩, 
            ⟨some 4, .move (.t 8), none⟩] false)
        (.ret)) }

/- slices.EqualFunc[[]sequitur/api.Lemma,[]sequitur/api.Lemma,sequitur/api.Lemma,sequitur/api.Lemma] -/
def L53_0 : AC :=
  .seq
    (.ops [⟨some 18, .bin .lss (.t 17) (.t 16), none⟩] false)
    (.seq
      (.cond (.t 18)
        (.skip)
        (.exit 0))
      (.seq
        (.block 1
          (.seq
            (.ops [⟨some 19, .move (.t 17), none⟩, 
                ⟨some 20, .idxA 8 (.t 15) (.t 17), none⟩, 
                ⟨some 21, .load true 8 (.t 20), none⟩, 
                ⟨some 8, .alloc 76 [.fsl 1 [], .int .i64 0, .fsl 1 [], .fsl 1 [], .int .i64 0, .int .i64 0, .fsl 2 [], .fsl 7 []], none⟩, 
                ⟨some 7, .move (.t 19), none⟩, 
                ⟨none, .store 8 (.t 8) (.t 21), none⟩] false)
            (.seq
              (.ops [⟨some 22, .move (.t 1), none⟩, 
                  ⟨some 23, .move (.t 7), none⟩, 
                  ⟨some 24, .idxA 8 (.t 22) (.t 23), none⟩, 
                  ⟨some 25, .load true 8 (.t 24), none⟩, 
                  ⟨some 9, .alloc 76 [.fsl 1 [], .int .i64 0, .fsl 1 [], .fsl 1 [], .int .i64 0, .int .i64 0, .fsl 2 [], .fsl 7 []], none⟩, 
                  ⟨none, .store 8 (.t 9) (.t 25), none⟩] false)
              (.seq
                (.ops [⟨some 26, .move (.t 2), none⟩, 
                    ⟨some 27, .load true 8 (.t 8), none⟩, 
                    ⟨some 28, .load true 8 (.t 9), none⟩, 
                    ⟨some 29, .callv (.t 26) [.t 27, .t 28], none⟩, 
                    ⟨some 30, .not (.t 29), none⟩] false)
                (.cond (.t 30)
                  (.seq
                    (.ops [⟨some 6, .move (.c (.bool false)), none⟩] false)
                    (.ret))
                  (.skip))))))
        (.ops [⟨some 31, .bin .add (.t 17) (.c (.int .i64 1)), none⟩, 
            ⟨some 17, .move (.t 31), none⟩] false)))
def F53 : AF :=
  { ntmps := 32, results := [.tmp 6], pure := true, body :=
    .seq
      (.ops [⟨some 6, .move (.c (.bool false)), none⟩] false)
      (.seq
        (.seq
          (.ops [⟨some 10, .move (.t 0), none⟩, 
              ⟨some 11, .len (.t 10), none⟩, 
              ⟨some 12, .move (.t 1), none⟩, 
              ⟨some 13, .len (.t 12), none⟩, 
              ⟨some 14, .bin .neq (.t 11) (.t 13), none⟩] false)
          (.cond (.t 14)
            (.seq
              (.ops [⟨some 6, .move (.c (.bool false)), none⟩] false)
              (.ret))
            (.skip)))
        (.seq
          (.seq
            (.ops [⟨some 15, .move (.t 0), none⟩, 
                ⟨some 16, .len (.t 15), none⟩, 
                ⟨some 17, .move (.c (.int .i64 0)), none⟩] false)
            (.block 0
              (.loop L53_0)))
          (.seq
            (.ops [⟨some 6, .move (.c (.bool true)), none⟩] false)
            (.ret)))) }

/- sequitur/proof.sameLemma -/
def F54 : AF :=
  { ntmps := 17, results := [.tmp 4], pure := true, body :=
    .seq
      (.ops [⟨some 2, .box 76 (.t 0), none⟩, 
          ⟨some 3, .box 76 (.t 1), none⟩, 
          ⟨some 4, .move (.c (.bool false)), none⟩] false)
      (.seq
        (.ops [⟨some 5, .fieldA 0 (.t 2), none⟩, 
            ⟨some 6, .load false 1 (.t 5), none⟩, 
            ⟨some 7, .fieldA 0 (.t 3), none⟩, 
            ⟨some 8, .load false 1 (.t 7), none⟩, 
            ⟨some 9, .call 82 [.t 6, .t 8], none⟩, 
            ⟨some 10, .move (.t 9), none⟩, 
            ⟨some 11, .fieldA 1 (.t 2), some (10, true)⟩, 
            ⟨some 12, .load true 7 (.t 11), some (10, true)⟩, 
            ⟨some 13, .fieldA 1 (.t 3), some (10, true)⟩, 
            ⟨some 14, .load true 7 (.t 13), some (10, true)⟩, 
            ⟨some 15, .call 57 [.t 12, .t 14], some (10, true)⟩, 
            ⟨some 16, .pick (.t 10) (.t 15) (.c (.bool false)), none⟩, 
            ⟨some 4, .move (.t 16), none⟩] false)
        (.ret)) }

/- slices.EqualFunc[[]sequitur/api.Chain,[]sequitur/api.Chain,sequitur/api.Chain,sequitur/api.Chain] -/
def L55_0 : AC :=
  .seq
    (.ops [⟨some 18, .bin .lss (.t 17) (.t 16), none⟩] false)
    (.seq
      (.cond (.t 18)
        (.skip)
        (.exit 0))
      (.seq
        (.block 1
          (.seq
            (.ops [⟨some 19, .move (.t 17), none⟩, 
                ⟨some 20, .idxA 2 (.t 15) (.t 17), none⟩, 
                ⟨some 21, .load true 2 (.t 20), none⟩, 
                ⟨some 8, .alloc 81 [.fsl 1 [], .fsl 1 []], none⟩, 
                ⟨some 7, .move (.t 19), none⟩, 
                ⟨none, .store 2 (.t 8) (.t 21), none⟩] false)
            (.seq
              (.ops [⟨some 22, .move (.t 1), none⟩, 
                  ⟨some 23, .move (.t 7), none⟩, 
                  ⟨some 24, .idxA 2 (.t 22) (.t 23), none⟩, 
                  ⟨some 25, .load true 2 (.t 24), none⟩, 
                  ⟨some 9, .alloc 81 [.fsl 1 [], .fsl 1 []], none⟩, 
                  ⟨none, .store 2 (.t 9) (.t 25), none⟩] false)
              (.seq
                (.ops [⟨some 26, .move (.t 2), none⟩, 
                    ⟨some 27, .load true 2 (.t 8), none⟩, 
                    ⟨some 28, .load true 2 (.t 9), none⟩, 
                    ⟨some 29, .callv (.t 26) [.t 27, .t 28], none⟩, 
                    ⟨some 30, .not (.t 29), none⟩] false)
                (.cond (.t 30)
                  (.seq
                    (.ops [⟨some 6, .move (.c (.bool false)), none⟩] false)
                    (.ret))
                  (.skip))))))
        (.ops [⟨some 31, .bin .add (.t 17) (.c (.int .i64 1)), none⟩, 
            ⟨some 17, .move (.t 31), none⟩] false)))
def F55 : AF :=
  { ntmps := 32, results := [.tmp 6], pure := true, body :=
    .seq
      (.ops [⟨some 6, .move (.c (.bool false)), none⟩] false)
      (.seq
        (.seq
          (.ops [⟨some 10, .move (.t 0), none⟩, 
              ⟨some 11, .len (.t 10), none⟩, 
              ⟨some 12, .move (.t 1), none⟩, 
              ⟨some 13, .len (.t 12), none⟩, 
              ⟨some 14, .bin .neq (.t 11) (.t 13), none⟩] false)
          (.cond (.t 14)
            (.seq
              (.ops [⟨some 6, .move (.c (.bool false)), none⟩] false)
              (.ret))
            (.skip)))
        (.seq
          (.seq
            (.ops [⟨some 15, .move (.t 0), none⟩, 
                ⟨some 16, .len (.t 15), none⟩, 
                ⟨some 17, .move (.c (.int .i64 0)), none⟩] false)
            (.block 0
              (.loop L55_0)))
          (.seq
            (.ops [⟨some 6, .move (.c (.bool true)), none⟩] false)
            (.ret)))) }

/- sequitur/proof.sameChain -/
def F56 : AF :=
  { ntmps := 17, results := [.tmp 4], pure := true, body :=
    .seq
      (.ops [⟨some 2, .box 81 (.t 0), none⟩, 
          ⟨some 3, .box 81 (.t 1), none⟩, 
          ⟨some 4, .move (.c (.bool false)), none⟩] false)
      (.seq
        (.ops [⟨some 5, .fieldA 0 (.t 2), none⟩, 
            ⟨some 6, .load false 1 (.t 5), none⟩, 
            ⟨some 7, .fieldA 0 (.t 3), none⟩, 
            ⟨some 8, .load false 1 (.t 7), none⟩, 
            ⟨some 9, .call 82 [.t 6, .t 8], none⟩, 
            ⟨some 10, .move (.t 9), none⟩, 
            ⟨some 11, .fieldA 1 (.t 2), some (10, true)⟩, 
            ⟨some 12, .load false 1 (.t 11), some (10, true)⟩, 
            ⟨some 13, .fieldA 1 (.t 3), some (10, true)⟩, 
            ⟨some 14, .load false 1 (.t 13), some (10, true)⟩, 
            ⟨some 15, .call 82 [.t 12, .t 14], some (10, true)⟩, 
            ⟨some 16, .pick (.t 10) (.t 15) (.c (.bool false)), none⟩, 
            ⟨some 4, .move (.t 16), none⟩] false)
        (.ret)) }

/- sequitur/proof.sameCut -/
def F57 : AF :=
  { ntmps := 56, results := [.tmp 4], pure := true, body :=
    .seq
      (.ops [⟨some 2, .box 37 (.t 0), none⟩, 
          ⟨some 3, .box 37 (.t 1), none⟩, 
          ⟨some 4, .move (.c (.bool false)), none⟩] false)
      (.seq
        (.ops [⟨some 5, .fieldA 0 (.t 2), none⟩, 
            ⟨some 6, .load false 1 (.t 5), none⟩, 
            ⟨some 7, .fieldA 0 (.t 3), none⟩, 
            ⟨some 8, .load false 1 (.t 7), none⟩, 
            ⟨some 9, .bin .eql (.t 6) (.t 8), none⟩, 
            ⟨some 10, .move (.t 9), none⟩, 
            ⟨some 11, .fieldA 3 (.t 2), some (10, true)⟩, 
            ⟨some 12, .load false 1 (.t 11), some (10, true)⟩, 
            ⟨some 13, .fieldA 3 (.t 3), some (10, true)⟩, 
            ⟨some 14, .load false 1 (.t 13), some (10, true)⟩, 
            ⟨some 15, .bin .eql (.t 12) (.t 14), some (10, true)⟩, 
            ⟨some 16, .pick (.t 10) (.t 15) (.c (.bool false)), none⟩, 
            ⟨some 17, .move (.t 16), none⟩, 
            ⟨some 18, .fieldA 4 (.t 2), some (17, true)⟩, 
            ⟨some 19, .fieldA 0 (.t 18), some (17, true)⟩, 
            ⟨some 20, .load false 1 (.t 19), some (17, true)⟩, 
            ⟨some 21, .fieldA 4 (.t 3), some (17, true)⟩, 
            ⟨some 22, .fieldA 0 (.t 21), some (17, true)⟩, 
            ⟨some 23, .load false 1 (.t 22), some (17, true)⟩, 
            ⟨some 24, .bin .eql (.t 20) (.t 23), some (17, true)⟩, 
            ⟨some 25, .pick (.t 17) (.t 24) (.c (.bool false)), none⟩, 
            ⟨some 26, .move (.t 25), none⟩, 
            ⟨some 27, .fieldA 4 (.t 2), some (26, true)⟩, 
            ⟨some 28, .fieldA 1 (.t 27), some (26, true)⟩, 
            ⟨some 29, .load false 1 (.t 28), some (26, true)⟩, 
            ⟨some 30, .fieldA 4 (.t 3), some (26, true)⟩, 
            ⟨some 31, .fieldA 1 (.t 30), some (26, true)⟩, 
            ⟨some 32, .load false 1 (.t 31), some (26, true)⟩, 
            ⟨some 33, .call 83 [.t 29, .t 32], some (26, true)⟩, 
            ⟨some 34, .pick (.t 26) (.t 33) (.c (.bool false)), none⟩, 
            ⟨some 35, .move (.t 34), none⟩, 
            ⟨some 36, .fieldA 1 (.t 2), some (35, true)⟩, 
            ⟨some 37, .load false 1 (.t 36), some (35, true)⟩, 
            ⟨some 38, .fieldA 1 (.t 3), some (35, true)⟩, 
            ⟨some 39, .load false 1 (.t 38), some (35, true)⟩, 
            ⟨some 40, .call 82 [.t 37, .t 39], some (35, true)⟩, 
            ⟨some 41, .pick (.t 35) (.t 40) (.c (.bool false)), none⟩, 
            ⟨some 42, .move (.t 41), none⟩, 
            ⟨some 43, .fieldA 2 (.t 2), some (42, true)⟩, 
            ⟨some 44, .load false 1 (.t 43), some (42, true)⟩, 
            ⟨some 45, .fieldA 2 (.t 3), some (42, true)⟩, 
            ⟨some 46, .load false 1 (.t 45), some (42, true)⟩, 
            ⟨some 47, .call 84 [.t 44, .t 46], some (42, true)⟩, 
            ⟨some 48, .pick (.t 42) (.t 47) (.c (.bool false)), none⟩, 
            ⟨some 49, .move (.t 48), none⟩, 
            ⟨some 50, .fieldA 6 (.t 2), some (49, true)⟩, 
            ⟨some 51, .load false 1 (.t 50), some (49, true)⟩, 
            ⟨some 52, .fieldA 6 (.t 3), some (49, true)⟩, 
            ⟨some 53, .load false 1 (.t 52), some (49, true)⟩, 
            ⟨some 54, .call 85 [.t 51, .t 53, .f 57], some (49, true)⟩, 
            ⟨some 55, .pick (.t 49) (.t 54) (.c (.bool false)), none⟩, 
            ⟨some 4, .move (.t 55), none⟩] false)
        (.ret)) }

/- slices.EqualFunc[[]sequitur/api.Proof,[]sequitur/api.Proof,sequitur/api.Proof,sequitur/api.Proof] -/
def L58_0 : AC :=
  .seq
    (.ops [⟨some 18, .bin .lss (.t 17) (.t 16), none⟩] false)
    (.seq
      (.cond (.t 18)
        (.skip)
        (.exit 0))
      (.seq
        (.block 1
          (.seq
            (.ops [⟨some 19, .move (.t 17), none⟩, 
                ⟨some 20, .idxA 24 (.t 15) (.t 17), none⟩, 
                ⟨some 21, .load true 24 (.t 20), none⟩, 
                ⟨some 8, .alloc 42 [.int .i64 0, .str ⟨#[]⟩, .str ⟨#[]⟩, .str ⟨#[]⟩, .bool false, .int .i64 0, .str ⟨#[]⟩, .int .i64 0, .fsl 4 [], .int .i64 0, .str ⟨#[]⟩, .str ⟨#[]⟩, .fsl 4 [], .fsl 5 [], .fsl 8 [], .fsl 2 [], .int .i64 0, .fsl 1 [], .fsl 1 [], .int .i64 0, .int .i64 0, .fsl 2 [], .fsl 7 [], .fsl 24 []], none⟩, 
                ⟨some 7, .move (.t 19), none⟩, 
                ⟨none, .store 24 (.t 8) (.t 21), none⟩] false)
            (.seq
              (.ops [⟨some 22, .move (.t 1), none⟩, 
                  ⟨some 23, .move (.t 7), none⟩, 
                  ⟨some 24, .idxA 24 (.t 22) (.t 23), none⟩, 
                  ⟨some 25, .load true 24 (.t 24), none⟩, 
                  ⟨some 9, .alloc 42 [.int .i64 0, .str ⟨#[]⟩, .str ⟨#[]⟩, .str ⟨#[]⟩, .bool false, .int .i64 0, .str ⟨#[]⟩, .int .i64 0, .fsl 4 [], .int .i64 0, .str ⟨#[]⟩, .str ⟨#[]⟩, .fsl 4 [], .fsl 5 [], .fsl 8 [], .fsl 2 [], .int .i64 0, .fsl 1 [], .fsl 1 [], .int .i64 0, .int .i64 0, .fsl 2 [], .fsl 7 [], .fsl 24 []], none⟩, 
                  ⟨none, .store 24 (.t 9) (.t 25), none⟩] false)
              (.seq
                (.ops [⟨some 26, .move (.t 2), none⟩, 
                    ⟨some 27, .load true 24 (.t 8), none⟩, 
                    ⟨some 28, .load true 24 (.t 9), none⟩, 
                    ⟨some 29, .callv (.t 26) [.t 27, .t 28], none⟩, 
                    ⟨some 30, .not (.t 29), none⟩] false)
                (.cond (.t 30)
                  (.seq
                    (.ops [⟨some 6, .move (.c (.bool false)), none⟩] false)
                    (.ret))
                  (.skip))))))
        (.ops [⟨some 31, .bin .add (.t 17) (.c (.int .i64 1)), none⟩, 
            ⟨some 17, .move (.t 31), none⟩] false)))
def F58 : AF :=
  { ntmps := 32, results := [.tmp 6], pure := true, body :=
    .seq
      (.ops [⟨some 6, .move (.c (.bool false)), none⟩] false)
      (.seq
        (.seq
          (.ops [⟨some 10, .move (.t 0), none⟩, 
              ⟨some 11, .len (.t 10), none⟩, 
              ⟨some 12, .move (.t 1), none⟩, 
              ⟨some 13, .len (.t 12), none⟩, 
              ⟨some 14, .bin .neq (.t 11) (.t 13), none⟩] false)
          (.cond (.t 14)
            (.seq
              (.ops [⟨some 6, .move (.c (.bool false)), none⟩] false)
              (.ret))
            (.skip)))
        (.seq
          (.seq
            (.ops [⟨some 15, .move (.t 0), none⟩, 
                ⟨some 16, .len (.t 15), none⟩, 
                ⟨some 17, .move (.c (.int .i64 0)), none⟩] false)
            (.block 0
              (.loop L58_0)))
          (.seq
            (.ops [⟨some 6, .move (.c (.bool true)), none⟩] false)
            (.ret)))) }

/- sequitur/proof.Open$1 -/
def F60 : AF :=
  { ntmps := 14, results := [.tmp 5], pure := false, body :=
    .seq
      (.ops [⟨some 3, .box 42 (.t 0), none⟩, 
          ⟨some 5, .move (.c (.bool false)), none⟩] false)
      (.seq
        (.seq
          (.ops [⟨some 6, .fieldA 0 (.t 3), none⟩, 
              ⟨some 7, .load false 1 (.t 6), none⟩, 
              ⟨some 8, .bin .eql (.t 7) (.c (.int .i64 0)), none⟩] false)
          (.cond (.t 8)
            (.opsW [⟨some 9, .load false 1 (.t 2), none⟩, 
                ⟨some 10, .move (.t 1), none⟩, 
                ⟨some 11, .call 33 [.t 10], none⟩, 
                ⟨some 12, .buildSl 1 [.fsl 1 []] 1 [(0, .t 11)], none⟩, 
                ⟨some 13, .append 30 1 24 (.t 9) (.t 12), none⟩, 
                ⟨none, .store 1 (.t 2) (.t 13), none⟩])
            (.skip)))
        (.seq
          (.ops [⟨some 5, .move (.c (.bool true)), none⟩] false)
          (.ret))) }

/- sequitur/proof.Count$1 -/
def F61 : AF :=
  { ntmps := 13, results := [.tmp 6], pure := false, body :=
    .seq
      (.ops [⟨some 4, .box 42 (.t 0), none⟩, 
          ⟨some 6, .move (.c (.bool false)), none⟩] false)
      (.seq
        (.seq
          (.ops [⟨some 7, .fieldA 0 (.t 4), none⟩, 
              ⟨some 8, .load false 1 (.t 7), none⟩, 
              ⟨some 9, .load false 1 (.t 2), none⟩, 
              ⟨some 10, .bin .eql (.t 8) (.t 9), none⟩] false)
          (.cond (.t 10)
            (.ops [⟨some 11, .load false 1 (.t 3), none⟩, 
                ⟨some 12, .bin .add (.t 11) (.c (.int .i64 1)), none⟩, 
                ⟨none, .store 1 (.t 3) (.t 12), none⟩] false)
            (.skip)))
        (.seq
          (.ops [⟨some 6, .move (.c (.bool true)), none⟩] false)
          (.ret))) }

/- sequitur/sequiturbase.Term -/
def F62 : AF :=
  { ntmps := 31, results := [.tmp 4], pure := true, body :=
    .seq
      (.ops [⟨some 2, .box 24 (.t 0), none⟩, 
          ⟨some 3, .box 24 (.t 1), none⟩, 
          ⟨some 4, .move (.c (.bool false)), none⟩] false)
      (.seq
        (.ops [⟨some 5, .fieldA 0 (.t 2), none⟩, 
            ⟨some 6, .load false 1 (.t 5), none⟩, 
            ⟨some 7, .fieldA 0 (.t 3), none⟩, 
            ⟨some 8, .load false 1 (.t 7), none⟩, 
            ⟨some 9, .bin .eql (.t 6) (.t 8), none⟩, 
            ⟨some 10, .move (.t 9), none⟩, 
            ⟨some 11, .fieldA 1 (.t 2), some (10, true)⟩, 
            ⟨some 12, .load false 1 (.t 11), some (10, true)⟩, 
            ⟨some 13, .fieldA 1 (.t 3), some (10, true)⟩, 
            ⟨some 14, .load false 1 (.t 13), some (10, true)⟩, 
            ⟨some 15, .bin .eql (.t 12) (.t 14), some (10, true)⟩, 
            ⟨some 16, .pick (.t 10) (.t 15) (.c (.bool false)), none⟩, 
            ⟨some 17, .move (.t 16), none⟩, 
            ⟨some 18, .fieldA 2 (.t 2), some (17, true)⟩, 
            ⟨some 19, .load false 1 (.t 18), some (17, true)⟩, 
            ⟨some 20, .fieldA 2 (.t 3), some (17, true)⟩, 
            ⟨some 21, .load false 1 (.t 20), some (17, true)⟩, 
            ⟨some 22, .bin .eql (.t 19) (.t 21), some (17, true)⟩, 
            ⟨some 23, .pick (.t 17) (.t 22) (.c (.bool false)), none⟩, 
            ⟨some 24, .move (.t 23), none⟩, 
            ⟨some 25, .fieldA 3 (.t 2), some (24, true)⟩, 
            ⟨some 26, .load false 1 (.t 25), some (24, true)⟩, 
            ⟨some 27, .fieldA 3 (.t 3), some (24, true)⟩, 
            ⟨some 28, .load false 1 (.t 27), some (24, true)⟩, 
            ⟨some 29, .call 78 [.t 26, .t 28], some (24, true)⟩, 
            ⟨some 30, .pick (.t 24) (.t 29) (.c (.bool false)), none⟩, 
            ⟨some 4, .move (.t 30), none⟩] false)
        (.ret)) }

/- sequitur/sequiturbase.Claim -/
def F63 : AF :=
  { ntmps := 46, results := [.tmp 4], pure := true, body :=
    .seq
      (.ops [⟨some 2, .box 27 (.t 0), none⟩, 
          ⟨some 3, .box 27 (.t 1), none⟩, 
          ⟨some 4, .move (.c (.bool false)), none⟩] false)
      (.seq
        (.seq
          (.ops [⟨some 5, .fieldA 0 (.t 2), none⟩, 
              ⟨some 6, .load false 1 (.t 5), none⟩, 
              ⟨some 7, .fieldA 0 (.t 3), none⟩, 
              ⟨some 8, .load false 1 (.t 7), none⟩, 
              ⟨some 9, .bin .neq (.t 6) (.t 8), none⟩, 
              ⟨some 10, .move (.t 9), none⟩, 
              ⟨some 11, .fieldA 2 (.t 2), some (10, false)⟩, 
              ⟨some 12, .load false 1 (.t 11), some (10, false)⟩, 
              ⟨some 13, .fieldA 2 (.t 3), some (10, false)⟩, 
              ⟨some 14, .load false 1 (.t 13), some (10, false)⟩, 
              ⟨some 15, .bin .neq (.t 12) (.t 14), some (10, false)⟩, 
              ⟨some 16, .pick (.t 10) (.c (.bool true)) (.t 15), none⟩, 
              ⟨some 17, .move (.t 16), none⟩, 
              ⟨some 18, .fieldA 0 (.t 2), some (17, false)⟩, 
              ⟨some 19, .load false 1 (.t 18), some (17, false)⟩, 
              ⟨some 20, .bin .neq (.t 19) (.c (.int .i64 11)), some (17, false)⟩, 
              ⟨some 21, .move (.t 20), some (17, false)⟩, 
              ⟨some 22, .fieldA 0 (.t 2), some (21, true)⟩, 
              ⟨some 23, .load false 1 (.t 22), some (21, true)⟩, 
              ⟨some 24, .bin .neq (.t 23) (.c (.int .i64 12)), some (21, true)⟩, 
              ⟨some 25, .pick (.t 21) (.t 24) (.c (.bool false)), some (17, false)⟩, 
              ⟨some 26, .move (.t 25), some (17, false)⟩, 
              ⟨some 27, .fieldA 1 (.t 2), some (26, true)⟩, 
              ⟨some 28, .load false 1 (.t 27), some (26, true)⟩, 
              ⟨some 29, .fieldA 1 (.t 3), some (26, true)⟩, 
              ⟨some 30, .load false 1 (.t 29), some (26, true)⟩, 
              ⟨some 31, .bin .neq (.t 28) (.t 30), some (26, true)⟩, 
              ⟨some 32, .pick (.t 26) (.t 31) (.c (.bool false)), some (17, false)⟩, 
              ⟨some 33, .pick (.t 17) (.c (.bool true)) (.t 32), none⟩] false)
          (.cond (.t 33)
            (.seq
              (.ops [⟨some 4, .move (.c (.bool false)), none⟩] false)
              (.ret))
            (.skip)))
        (.seq
          (.ops [⟨some 34, .fieldA 3 (.t 2), none⟩, 
              ⟨some 35, .load false 1 (.t 34), none⟩, 
              ⟨some 36, .fieldA 3 (.t 3), none⟩, 
              ⟨some 37, .load false 1 (.t 36), none⟩, 
              ⟨some 38, .call 78 [.t 35, .t 37], none⟩, 
              ⟨some 39, .move (.t 38), none⟩, 
              ⟨some 40, .fieldA 4 (.t 2), some (39, true)⟩, 
              ⟨some 41, .load false 1 (.t 40), some (39, true)⟩, 
              ⟨some 42, .fieldA 4 (.t 3), some (39, true)⟩, 
              ⟨some 43, .load false 1 (.t 42), some (39, true)⟩, 
              ⟨some 44, .call 86 [.t 41, .t 43], some (39, true)⟩, 
              ⟨some 45, .pick (.t 39) (.t 44) (.c (.bool false)), none⟩, 
              ⟨some 4, .move (.t 45), none⟩] false)
          (.ret))) }

/- sequitur/sequiturbase.Cert -/
def F64 : AF :=
  { ntmps := 24, results := [.tmp 4], pure := true, body :=
    .seq
      (.ops [⟨some 2, .box 39 (.t 0), none⟩, 
          ⟨some 3, .box 39 (.t 1), none⟩, 
          ⟨some 4, .move (.c (.bool false)), none⟩] false)
      (.seq
        (.ops [⟨some 5, .fieldA 0 (.t 2), none⟩, 
            ⟨some 6, .load false 1 (.t 5), none⟩, 
            ⟨some 7, .fieldA 0 (.t 3), none⟩, 
            ⟨some 8, .load false 1 (.t 7), none⟩, 
            ⟨some 9, .call 87 [.t 6, .t 8], none⟩, 
            ⟨some 10, .move (.t 9), none⟩, 
            ⟨some 11, .fieldA 1 (.t 2), some (10, true)⟩, 
            ⟨some 12, .load false 1 (.t 11), some (10, true)⟩, 
            ⟨some 13, .fieldA 1 (.t 3), some (10, true)⟩, 
            ⟨some 14, .load false 1 (.t 13), some (10, true)⟩, 
            ⟨some 15, .call 88 [.t 12, .t 14], some (10, true)⟩, 
            ⟨some 16, .pick (.t 10) (.t 15) (.c (.bool false)), none⟩, 
            ⟨some 17, .move (.t 16), none⟩, 
            ⟨some 18, .fieldA 2 (.t 2), some (17, true)⟩, 
            ⟨some 19, .load true 7 (.t 18), some (17, true)⟩, 
            ⟨some 20, .fieldA 2 (.t 3), some (17, true)⟩, 
            ⟨some 21, .load true 7 (.t 20), some (17, true)⟩, 
            ⟨some 22, .call 89 [.t 19, .t 21], some (17, true)⟩, 
            ⟨some 23, .pick (.t 17) (.t 22) (.c (.bool false)), none⟩, 
            ⟨some 4, .move (.t 23), none⟩] false)
        (.ret)) }

/- sequitur/sequiturbase.Proofs -/
def L65_0 : AC :=
  .seq
    (.seq
      (.ops [⟨some 11, .move (.t 5), none⟩, 
          ⟨some 12, .move (.t 0), none⟩, 
          ⟨some 13, .len (.t 12), none⟩, 
          ⟨some 14, .bin .lss (.t 11) (.t 13), none⟩] false)
      (.cond (.t 14)
        (.skip)
        (.exit 0)))
    (.seq
      (.block 1
        (.seq
          (.ops [⟨some 17, .move (.t 0), none⟩, 
              ⟨some 18, .move (.t 5), none⟩, 
              ⟨some 19, .idxA 24 (.t 17) (.t 18), none⟩, 
              ⟨some 20, .load true 24 (.t 19), none⟩, 
              ⟨some 21, .move (.t 1), none⟩, 
              ⟨some 22, .move (.t 5), none⟩, 
              ⟨some 23, .idxA 24 (.t 21) (.t 22), none⟩, 
              ⟨some 24, .load true 24 (.t 23), none⟩, 
              ⟨some 25, .call 27 [.t 20, .t 24], none⟩, 
              ⟨some 26, .not (.t 25), none⟩] true)
          (.cond (.t 26)
            (.seq
              (.ops [⟨some 4, .move (.c (.bool false)), none⟩] false)
              (.ret))
            (.skip))))
      (.ops [⟨some 15, .move (.t 5), none⟩, 
          ⟨some 16, .bin .add (.t 15) (.c (.int .i64 1)), none⟩, 
          ⟨some 5, .move (.t 16), none⟩] false))
def F65 : AF :=
  { ntmps := 27, results := [.tmp 4], pure := true, body :=
    .seq
      (.ops [⟨some 4, .move (.c (.bool false)), none⟩] false)
      (.seq
        (.seq
          (.ops [⟨some 6, .move (.t 0), none⟩, 
              ⟨some 7, .len (.t 6), none⟩, 
              ⟨some 8, .move (.t 1), none⟩, 
              ⟨some 9, .len (.t 8), none⟩, 
              ⟨some 10, .bin .neq (.t 7) (.t 9), none⟩] false)
          (.cond (.t 10)
            (.seq
              (.ops [⟨some 4, .move (.c (.bool false)), none⟩] false)
              (.ret))
            (.skip)))
        (.seq
          (.seq
            (.ops [⟨some 5, .move (.c (.int .i64 0)), none⟩] false)
            (.block 0
              (.loop L65_0)))
          (.seq
            (.ops [⟨some 4, .move (.c (.bool true)), none⟩] false)
            (.ret)))) }

/- sequitur/sequiturbase.Size -/
def L66_0 : AC :=
  .seq
    (.seq
      (.ops [⟨some 7, .move (.t 6), none⟩, 
          ⟨some 8, .fieldA 3 (.t 2), none⟩, 
          ⟨some 9, .load false 1 (.t 8), none⟩, 
          ⟨some 10, .len (.t 9), none⟩, 
          ⟨some 11, .bin .lss (.t 7) (.t 10), none⟩, 
          ⟨some 12, .move (.t 11), none⟩, 
          ⟨some 13, .move (.t 5), some (12, true)⟩, 
          ⟨some 14, .move (.t 1), some (12, true)⟩, 
          ⟨some 15, .bin .leq (.t 13) (.t 14), some (12, true)⟩, 
          ⟨some 16, .pick (.t 12) (.t 15) (.c (.bool false)), none⟩] false)
      (.cond (.t 16)
        (.skip)
        (.exit 0)))
    (.seq
      (.block 1
        (.ops [⟨some 19, .move (.t 5), none⟩, 
            ⟨some 20, .fieldA 3 (.t 2), none⟩, 
            ⟨some 21, .load false 1 (.t 20), none⟩, 
            ⟨some 22, .move (.t 6), none⟩, 
            ⟨some 23, .idxA 4 (.t 21) (.t 22), none⟩, 
            ⟨some 24, .load true 4 (.t 23), none⟩, 
            ⟨some 25, .move (.t 1), none⟩, 
            ⟨some 26, .move (.t 5), none⟩, 
            ⟨some 27, .bin .sub (.t 25) (.t 26), none⟩, 
            ⟨some 28, .call 66 [.t 24, .t 27], none⟩, 
            ⟨some 29, .bin .add (.t 19) (.t 28), none⟩, 
            ⟨some 5, .move (.t 29), none⟩] false))
      (.ops [⟨some 17, .move (.t 6), none⟩, 
          ⟨some 18, .bin .add (.t 17) (.c (.int .i64 1)), none⟩, 
          ⟨some 6, .move (.t 18), none⟩] false))
def F66 : AF :=
  { ntmps := 31, results := [.tmp 4], pure := true, body :=
    .seq
      (.ops [⟨some 2, .box 24 (.t 0), none⟩, 
          ⟨some 4, .move (.c (.int .i64 0)), none⟩] false)
      (.seq
        (.ops [⟨some 5, .move (.c (.int .i64 1)), none⟩] false)
        (.seq
          (.seq
            (.ops [⟨some 6, .move (.c (.int .i64 0)), none⟩] false)
            (.block 0
              (.loop L66_0)))
          (.seq
            (.ops [⟨some 30, .move (.t 5), none⟩, 
                ⟨some 4, .move (.t 30), none⟩] false)
            (.ret)))) }

/- sequitur/sequiturbase.Big -/
def F67 : AF :=
  { ntmps := 10, results := [.tmp 4], pure := true, body :=
    .seq
      (.ops [⟨some 2, .box 27 (.t 0), none⟩, 
          ⟨some 4, .move (.c (.bool false)), none⟩] false)
      (.seq
        (.ops [⟨some 5, .load true 5 (.t 2), none⟩, 
            ⟨some 6, .move (.t 1), none⟩, 
            ⟨some 7, .call 90 [.t 5, .t 6], none⟩, 
            ⟨some 8, .move (.t 1), none⟩, 
            ⟨some 9, .bin .gtr (.t 7) (.t 8), none⟩, 
            ⟨some 4, .move (.t 9), none⟩] false)
        (.ret)) }

/- sequitur/sequiturlaw38.cut -/
def L68_0 : AC :=
  .seq
    (.seq
      (.ops [⟨some 20, .move (.t 6), none⟩, 
          ⟨some 21, .fieldA 6 (.t 2), none⟩, 
          ⟨some 22, .load false 1 (.t 21), none⟩, 
          ⟨some 23, .len (.t 22), none⟩, 
          ⟨some 24, .bin .lss (.t 20) (.t 23), none⟩, 
          ⟨some 25, .move (.t 24), none⟩, 
          ⟨some 26, .move (.t 5), some (25, true)⟩, 
          ⟨some 27, .move (.t 1), some (25, true)⟩, 
          ⟨some 28, .bin .leq (.t 26) (.t 27), some (25, true)⟩, 
          ⟨some 29, .pick (.t 25) (.t 28) (.c (.bool false)), none⟩] false)
      (.cond (.t 29)
        (.skip)
        (.exit 0)))
    (.seq
      (.block 1
        (.ops [⟨some 32, .move (.t 5), none⟩, 
            ⟨some 33, .fieldA 6 (.t 2), none⟩, 
            ⟨some 34, .load false 1 (.t 33), none⟩, 
            ⟨some 35, .move (.t 6), none⟩, 
            ⟨some 36, .idxA 7 (.t 34) (.t 35), none⟩, 
            ⟨some 37, .load true 7 (.t 36), none⟩, 
            ⟨some 38, .move (.t 1), none⟩, 
            ⟨some 39, .move (.t 5), none⟩, 
            ⟨some 40, .bin .sub (.t 38) (.t 39), none⟩, 
            ⟨some 41, .call 68 [.t 37, .t 40], none⟩, 
            ⟨some 42, .bin .add (.t 32) (.t 41), none⟩, 
            ⟨some 5, .move (.t 42), none⟩] false))
      (.ops [⟨some 30, .move (.t 6), none⟩, 
          ⟨some 31, .bin .add (.t 30) (.c (.int .i64 1)), none⟩, 
          ⟨some 6, .move (.t 31), none⟩] false))
def F68 : AF :=
  { ntmps := 44, results := [.tmp 4], pure := true, body :=
    .seq
      (.ops [⟨some 2, .box 37 (.t 0), none⟩, 
          ⟨some 4, .move (.c (.int .i64 0)), none⟩] false)
      (.seq
        (.ops [⟨some 7, .fieldA 1 (.t 2), none⟩, 
            ⟨some 8, .load false 1 (.t 7), none⟩, 
            ⟨some 9, .len (.t 8), none⟩, 
            ⟨some 10, .bin .add (.c (.int .i64 1)) (.t 9), none⟩, 
            ⟨some 11, .fieldA 2 (.t 2), none⟩, 
            ⟨some 12, .load false 1 (.t 11), none⟩, 
            ⟨some 13, .len (.t 12), none⟩, 
            ⟨some 14, .bin .add (.t 10) (.t 13), none⟩, 
            ⟨some 15, .fieldA 4 (.t 2), none⟩, 
            ⟨some 16, .fieldA 1 (.t 15), none⟩, 
            ⟨some 17, .load false 1 (.t 16), none⟩, 
            ⟨some 18, .len (.t 17), none⟩, 
            ⟨some 19, .bin .add (.t 14) (.t 18), none⟩, 
            ⟨some 5, .move (.t 19), none⟩] false)
        (.seq
          (.seq
            (.ops [⟨some 6, .move (.c (.int .i64 0)), none⟩] false)
            (.block 0
              (.loop L68_0)))
          (.seq
            (.ops [⟨some 43, .move (.t 5), none⟩, 
                ⟨some 4, .move (.t 43), none⟩] false)
            (.ret)))) }

/- sequitur/term.with -/
def L74_0 : AC :=
  .seq
    (.ops [⟨some 12, .bin .lss (.t 11) (.t 10), none⟩] false)
    (.seq
      (.cond (.t 12)
        (.skip)
        (.exit 0))
      (.seq
        (.block 1
          (.seq
            (.ops [⟨some 13, .idxA 4 (.t 9) (.t 11), none⟩, 
                ⟨some 14, .load true 4 (.t 13), none⟩, 
                ⟨some 7, .alloc 24 [.int .i64 0, .str ⟨#[]⟩, .int .i64 0, .fsl 4 []], none⟩, 
                ⟨none, .store 4 (.t 7) (.t 14), none⟩] false)
            (.ops [⟨some 15, .move (.t 5), none⟩, 
                ⟨some 16, .move (.t 1), none⟩, 
                ⟨some 17, .load true 4 (.t 7), none⟩, 
                ⟨some 18, .callv (.t 16) [.t 17], none⟩, 
                ⟨some 19, .buildSl 4 [.int .i64 0, .str ⟨#[]⟩, .int .i64 0, .fsl 4 []] 1 [(0, .t 18)], none⟩, 
                ⟨some 20, .append 24 4 56 (.t 15) (.t 19), none⟩, 
                ⟨some 5, .move (.t 20), none⟩] false)))
        (.ops [⟨some 21, .bin .add (.t 11) (.c (.int .i64 1)), none⟩, 
            ⟨some 11, .move (.t 21), none⟩] false)))
def F74 : AF :=
  { ntmps := 25, results := [.cell 4 true 4], pure := true, body :=
    .seq
      (.ops [⟨some 2, .box 24 (.t 0), none⟩, 
          ⟨some 4, .alloc 24 [.int .i64 0, .str ⟨#[]⟩, .int .i64 0, .fsl 4 []], none⟩] false)
      (.seq
        (.ops [⟨some 5, .move (.c (.fsl 4 [])), none⟩] false)
        (.seq
          (.seq
            (.ops [⟨some 8, .fieldA 3 (.t 2), none⟩, 
                ⟨some 9, .load false 1 (.t 8), none⟩, 
                ⟨some 10, .len (.t 9), none⟩, 
                ⟨some 11, .move (.c (.int .i64 0)), none⟩] false)
            (.block 0
              (.loop L74_0)))
          (.seq
            (.ops [⟨some 22, .move (.t 5), none⟩, 
                ⟨some 23, .fieldA 3 (.t 2), none⟩, 
                ⟨none, .store 1 (.t 23) (.t 22), none⟩] false)
            (.seq
              (.ops [⟨some 24, .load true 4 (.t 2), none⟩, 
                  ⟨none, .store 4 (.t 4) (.t 24), none⟩] false)
              (.ret))))) }

/- sequitur/proof.each[sequitur/api.Cut] -/
def L77_0 : AC :=
  .seq
    (.ops [⟨some 11, .bin .lss (.t 10) (.t 9), none⟩] false)
    (.seq
      (.cond (.t 11)
        (.skip)
        (.exit 0))
      (.seq
        (.block 1
          (.seq
            (.ops [⟨some 12, .idxA 7 (.t 8) (.t 10), none⟩, 
                ⟨some 13, .load true 7 (.t 12), none⟩, 
                ⟨some 7, .alloc 37 [.int .i64 0, .fsl 1 [], .fsl 1 [], .int .i64 0, .int .i64 0, .fsl 2 [], .fsl 7 []], none⟩, 
                ⟨none, .store 7 (.t 7) (.t 13), none⟩] false)
            (.ops [⟨some 14, .move (.t 5), none⟩, 
                ⟨some 15, .move (.t 1), none⟩, 
                ⟨some 16, .load true 7 (.t 7), none⟩, 
                ⟨some 17, .callv (.t 15) [.t 16], none⟩, 
                ⟨some 18, .buildSl 7 [.int .i64 0, .fsl 1 [], .fsl 1 [], .int .i64 0, .int .i64 0, .fsl 2 [], .fsl 7 []] 1 [(0, .t 17)], none⟩, 
                ⟨some 19, .append 37 7 120 (.t 14) (.t 18), none⟩, 
                ⟨some 5, .move (.t 19), none⟩] false)))
        (.ops [⟨some 20, .bin .add (.t 10) (.c (.int .i64 1)), none⟩, 
            ⟨some 10, .move (.t 20), none⟩] false)))
def F77 : AF :=
  { ntmps := 22, results := [.tmp 4], pure := true, body :=
    .seq
      (.ops [⟨some 4, .move (.c (.fsl 7 [])), none⟩] false)
      (.seq
        (.ops [⟨some 5, .move (.c (.fsl 7 [])), none⟩] false)
        (.seq
          (.seq
            (.ops [⟨some 8, .move (.t 0), none⟩, 
                ⟨some 9, .len (.t 8), none⟩, 
                ⟨some 10, .move (.c (.int .i64 0)), none⟩] false)
            (.block 0
              (.loop L77_0)))
          (.seq
            (.ops [⟨some 21, .move (.t 5), none⟩, 
                ⟨some 4, .move (.t 21), none⟩] false)
            (.ret)))) }

/- sequitur/sequiturbase.Terms -/
def L78_0 : AC :=
  .seq
    (.seq
      (.ops [⟨some 11, .move (.t 5), none⟩, 
          ⟨some 12, .move (.t 0), none⟩, 
          ⟨some 13, .len (.t 12), none⟩, 
          ⟨some 14, .bin .lss (.t 11) (.t 13), none⟩] false)
      (.cond (.t 14)
        (.skip)
        (.exit 0)))
    (.seq
      (.block 1
        (.seq
          (.ops [⟨some 17, .move (.t 0), none⟩, 
              ⟨some 18, .move (.t 5), none⟩, 
              ⟨some 19, .idxA 4 (.t 17) (.t 18), none⟩, 
              ⟨some 20, .load true 4 (.t 19), none⟩, 
              ⟨some 21, .move (.t 1), none⟩, 
              ⟨some 22, .move (.t 5), none⟩, 
              ⟨some 23, .idxA 4 (.t 21) (.t 22), none⟩, 
              ⟨some 24, .load true 4 (.t 23), none⟩, 
              ⟨some 25, .call 62 [.t 20, .t 24], none⟩, 
              ⟨some 26, .not (.t 25), none⟩] true)
          (.cond (.t 26)
            (.seq
              (.ops [⟨some 4, .move (.c (.bool false)), none⟩] false)
              (.ret))
            (.skip))))
      (.ops [⟨some 15, .move (.t 5), none⟩, 
          ⟨some 16, .bin .add (.t 15) (.c (.int .i64 1)), none⟩, 
          ⟨some 5, .move (.t 16), none⟩] false))
def F78 : AF :=
  { ntmps := 27, results := [.tmp 4], pure := true, body :=
    .seq
      (.ops [⟨some 4, .move (.c (.bool false)), none⟩] false)
      (.seq
        (.seq
          (.ops [⟨some 6, .move (.t 0), none⟩, 
              ⟨some 7, .len (.t 6), none⟩, 
              ⟨some 8, .move (.t 1), none⟩, 
              ⟨some 9, .len (.t 8), none⟩, 
              ⟨some 10, .bin .neq (.t 7) (.t 9), none⟩] false)
          (.cond (.t 10)
            (.seq
              (.ops [⟨some 4, .move (.c (.bool false)), none⟩] false)
              (.ret))
            (.skip)))
        (.seq
          (.seq
            (.ops [⟨some 5, .move (.c (.int .i64 0)), none⟩] false)
            (.block 0
              (.loop L78_0)))
          (.seq
            (.ops [⟨some 4, .move (.c (.bool true)), none⟩] false)
            (.ret)))) }

/- sequitur/sequiturbase.Exacts -/
def L79_0 : AC :=
  .seq
    (.seq
      (.ops [⟨some 11, .move (.t 5), none⟩, 
          ⟨some 12, .move (.t 0), none⟩, 
          ⟨some 13, .len (.t 12), none⟩, 
          ⟨some 14, .bin .lss (.t 11) (.t 13), none⟩] false)
      (.cond (.t 14)
        (.skip)
        (.exit 0)))
    (.seq
      (.block 1
        (.seq
          (.ops [⟨some 17, .move (.t 0), none⟩, 
              ⟨some 18, .move (.t 5), none⟩, 
              ⟨some 19, .idxA 5 (.t 17) (.t 18), none⟩, 
              ⟨some 20, .load true 5 (.t 19), none⟩, 
              ⟨some 21, .move (.t 1), none⟩, 
              ⟨some 22, .move (.t 5), none⟩, 
              ⟨some 23, .idxA 5 (.t 21) (.t 22), none⟩, 
              ⟨some 24, .load true 5 (.t 23), none⟩, 
              ⟨some 25, .call 50 [.t 20, .t 24], none⟩, 
              ⟨some 26, .not (.t 25), none⟩] true)
          (.cond (.t 26)
            (.seq
              (.ops [⟨some 4, .move (.c (.bool false)), none⟩] false)
              (.ret))
            (.skip))))
      (.ops [⟨some 15, .move (.t 5), none⟩, 
          ⟨some 16, .bin .add (.t 15) (.c (.int .i64 1)), none⟩, 
          ⟨some 5, .move (.t 16), none⟩] false))
def F79 : AF :=
  { ntmps := 27, results := [.tmp 4], pure := true, body :=
    .seq
      (.ops [⟨some 4, .move (.c (.bool false)), none⟩] false)
      (.seq
        (.seq
          (.ops [⟨some 6, .move (.t 0), none⟩, 
              ⟨some 7, .len (.t 6), none⟩, 
              ⟨some 8, .move (.t 1), none⟩, 
              ⟨some 9, .len (.t 8), none⟩, 
              ⟨some 10, .bin .neq (.t 7) (.t 9), none⟩] false)
          (.cond (.t 10)
            (.seq
              (.ops [⟨some 4, .move (.c (.bool false)), none⟩] false)
              (.ret))
            (.skip)))
        (.seq
          (.seq
            (.ops [⟨some 5, .move (.c (.int .i64 0)), none⟩] false)
            (.block 0
              (.loop L79_0)))
          (.seq
            (.ops [⟨some 4, .move (.c (.bool true)), none⟩] false)
            (.ret)))) }

/- sequitur/term.Compare -/
def F80 : AF :=
  { ntmps := 34, results := [.tmp 4], pure := true, body :=
    .seq
      (.ops [⟨some 2, .box 24 (.t 0), none⟩, 
          ⟨some 3, .box 24 (.t 1), none⟩, 
          ⟨some 4, .move (.c (.int .i64 0)), none⟩] false)
      (.seq
        (.ops [⟨some 5, .fieldA 0 (.t 2), none⟩, 
            ⟨some 6, .load false 1 (.t 5), none⟩, 
            ⟨some 7, .fieldA 0 (.t 3), none⟩, 
            ⟨some 8, .load false 1 (.t 7), none⟩, 
            ⟨some 9, .call 93 [.t 6, .t 8], none⟩, 
            ⟨some 10, .fieldA 2 (.t 2), none⟩, 
            ⟨some 11, .load false 1 (.t 10), none⟩, 
            ⟨some 12, .fieldA 2 (.t 3), none⟩, 
            ⟨some 13, .load false 1 (.t 12), none⟩, 
            ⟨some 14, .call 94 [.t 11, .t 13], none⟩, 
            ⟨some 15, .fieldA 1 (.t 2), none⟩, 
            ⟨some 16, .load false 1 (.t 15), none⟩, 
            ⟨some 17, .fieldA 1 (.t 3), none⟩, 
            ⟨some 18, .load false 1 (.t 17), none⟩, 
            ⟨some 19, .call 95 [.t 16, .t 18], none⟩, 
            ⟨some 20, .fieldA 3 (.t 2), none⟩, 
            ⟨some 21, .load false 1 (.t 20), none⟩, 
            ⟨some 22, .len (.t 21), none⟩, 
            ⟨some 23, .fieldA 3 (.t 3), none⟩, 
            ⟨some 24, .load false 1 (.t 23), none⟩, 
            ⟨some 25, .len (.t 24), none⟩, 
            ⟨some 26, .call 93 [.t 22, .t 25], none⟩, 
            ⟨some 27, .fieldA 3 (.t 2), none⟩, 
            ⟨some 28, .load false 1 (.t 27), none⟩, 
            ⟨some 29, .fieldA 3 (.t 3), none⟩, 
            ⟨some 30, .load false 1 (.t 29), none⟩, 
            ⟨some 31, .call 96 [.t 28, .t 30, .f 80], none⟩, 
            ⟨some 32, .buildSl 1 [.int .i64 0] 5 [(0, .t 9), (1, .t 14), (2, .t 19), (3, .t 26), (4, .t 31)], none⟩, 
            ⟨some 33, .call 92 [.t 32], none⟩, 
            ⟨some 4, .move (.t 33), none⟩] true)
        (.ret)) }

/- sequitur/claim.Compare -/
def L81_0 : AC :=
  .seq
    (.ops [⟨some 50, .bin .lss (.t 49) (.t 48), none⟩] false)
    (.seq
      (.cond (.t 50)
        (.skip)
        (.exit 0))
      (.seq
        (.block 1
          (.seq
            (.ops [⟨some 51, .move (.t 49), none⟩, 
                ⟨some 6, .move (.t 51), none⟩] false)
            (.seq
              (.ops [⟨some 52, .fieldA 3 (.t 2), none⟩, 
                  ⟨some 53, .load false 1 (.t 52), none⟩, 
                  ⟨some 54, .move (.t 6), none⟩, 
                  ⟨some 55, .idxA 4 (.t 53) (.t 54), none⟩, 
                  ⟨some 56, .load true 4 (.t 55), none⟩, 
                  ⟨some 57, .fieldA 3 (.t 3), none⟩, 
                  ⟨some 58, .load false 1 (.t 57), none⟩, 
                  ⟨some 59, .move (.t 6), none⟩, 
                  ⟨some 60, .idxA 4 (.t 58) (.t 59), none⟩, 
                  ⟨some 61, .load true 4 (.t 60), none⟩, 
                  ⟨some 62, .call 80 [.t 56, .t 61], none⟩, 
                  ⟨some 7, .move (.t 62), none⟩] true)
              (.seq
                (.ops [⟨some 63, .move (.t 7), none⟩, 
                    ⟨some 64, .bin .neq (.t 63) (.c (.int .i64 0)), none⟩] false)
                (.cond (.t 64)
                  (.seq
                    (.ops [⟨some 65, .move (.t 7), none⟩, 
                        ⟨some 4, .move (.t 65), none⟩] false)
                    (.ret))
                  (.skip))))))
        (.ops [⟨some 66, .bin .add (.t 49) (.c (.int .i64 1)), none⟩, 
            ⟨some 49, .move (.t 66), none⟩] false)))

def L81_1 : AC :=
  .seq
    (.ops [⟨some 81, .bin .lss (.t 80) (.t 79), none⟩] false)
    (.seq
      (.cond (.t 81)
        (.skip)
        (.exit 2))
      (.seq
        (.block 3
          (.seq
            (.ops [⟨some 82, .move (.t 80), none⟩, 
                ⟨some 9, .move (.t 82), none⟩] false)
            (.seq
              (.ops [⟨some 83, .fieldA 4 (.t 2), none⟩, 
                  ⟨some 84, .load false 1 (.t 83), none⟩, 
                  ⟨some 85, .move (.t 9), none⟩, 
                  ⟨some 86, .idxA 5 (.t 84) (.t 85), none⟩, 
                  ⟨some 87, .load true 5 (.t 86), none⟩, 
                  ⟨some 88, .fieldA 4 (.t 3), none⟩, 
                  ⟨some 89, .load false 1 (.t 88), none⟩, 
                  ⟨some 90, .move (.t 9), none⟩, 
                  ⟨some 91, .idxA 5 (.t 89) (.t 90), none⟩, 
                  ⟨some 92, .load true 5 (.t 91), none⟩, 
                  ⟨some 93, .call 81 [.t 87, .t 92], none⟩, 
                  ⟨some 10, .move (.t 93), none⟩] true)
              (.seq
                (.ops [⟨some 94, .move (.t 10), none⟩, 
                    ⟨some 95, .bin .neq (.t 94) (.c (.int .i64 0)), none⟩] false)
                (.cond (.t 95)
                  (.seq
                    (.ops [⟨some 96, .move (.t 10), none⟩, 
                        ⟨some 4, .move (.t 96), none⟩] false)
                    (.ret))
                  (.skip))))))
        (.ops [⟨some 97, .bin .add (.t 80) (.c (.int .i64 1)), none⟩, 
            ⟨some 80, .move (.t 97), none⟩] false)))
def F81 : AF :=
  { ntmps := 98, results := [.tmp 4], pure := true, body :=
    .seq
      (.ops [⟨some 2, .box 27 (.t 0), none⟩, 
          ⟨some 3, .box 27 (.t 1), none⟩, 
          ⟨some 4, .move (.c (.int .i64 0)), none⟩] false)
      (.seq
        (.ops [⟨some 11, .fieldA 0 (.t 2), none⟩, 
            ⟨some 12, .load false 1 (.t 11), none⟩, 
            ⟨some 13, .fieldA 0 (.t 3), none⟩, 
            ⟨some 14, .load false 1 (.t 13), none⟩, 
            ⟨some 15, .call 93 [.t 12, .t 14], none⟩, 
            ⟨some 5, .move (.t 15), none⟩] false)
        (.seq
          (.seq
            (.ops [⟨some 16, .move (.t 5), none⟩, 
                ⟨some 17, .bin .eql (.t 16) (.c (.int .i64 0)), none⟩, 
                ⟨some 18, .move (.t 17), none⟩, 
                ⟨some 19, .load true 5 (.t 2), some (18, true)⟩, 
                ⟨some 20, .call 97 [.t 19], some (18, true)⟩, 
                ⟨some 21, .not (.t 20), some (18, true)⟩, 
                ⟨some 22, .pick (.t 18) (.t 21) (.c (.bool false)), none⟩] false)
            (.cond (.t 22)
              (.ops [⟨some 23, .fieldA 1 (.t 2), none⟩, 
                  ⟨some 24, .load false 1 (.t 23), none⟩, 
                  ⟨some 25, .fieldA 1 (.t 3), none⟩, 
                  ⟨some 26, .load false 1 (.t 25), none⟩, 
                  ⟨some 27, .call 95 [.t 24, .t 26], none⟩, 
                  ⟨some 5, .move (.t 27), none⟩] false)
              (.skip)))
          (.seq
            (.ops [⟨some 28, .move (.t 5), none⟩, 
                ⟨some 29, .fieldA 2 (.t 2), none⟩, 
                ⟨some 30, .load false 1 (.t 29), none⟩, 
                ⟨some 31, .fieldA 2 (.t 3), none⟩, 
                ⟨some 32, .load false 1 (.t 31), none⟩, 
                ⟨some 33, .call 95 [.t 30, .t 32], none⟩, 
                ⟨some 34, .fieldA 3 (.t 2), none⟩, 
                ⟨some 35, .load false 1 (.t 34), none⟩, 
                ⟨some 36, .len (.t 35), none⟩, 
                ⟨some 37, .fieldA 3 (.t 3), none⟩, 
                ⟨some 38, .load false 1 (.t 37), none⟩, 
                ⟨some 39, .len (.t 38), none⟩, 
                ⟨some 40, .call 93 [.t 36, .t 39], none⟩, 
                ⟨some 41, .buildSl 1 [.int .i64 0] 3 [(0, .t 28), (1, .t 33), (2, .t 40)], none⟩, 
                ⟨some 42, .call 92 [.t 41], none⟩, 
                ⟨some 5, .move (.t 42), none⟩] true)
            (.seq
              (.seq
                (.ops [⟨some 43, .move (.t 5), none⟩, 
                    ⟨some 44, .bin .neq (.t 43) (.c (.int .i64 0)), none⟩] false)
                (.cond (.t 44)
                  (.seq
                    (.ops [⟨some 45, .move (.t 5), none⟩, 
                        ⟨some 4, .move (.t 45), none⟩] false)
                    (.ret))
                  (.skip)))
              (.seq
                (.seq
                  (.ops [⟨some 46, .fieldA 3 (.t 2), none⟩, 
                      ⟨some 47, .load false 1 (.t 46), none⟩, 
                      ⟨some 48, .len (.t 47), none⟩, 
                      ⟨some 49, .move (.c (.int .i64 0)), none⟩] false)
                  (.block 0
                    (.loop L81_0)))
                (.seq
                  (.seq
                    (.ops [⟨some 67, .fieldA 4 (.t 2), none⟩, 
                        ⟨some 68, .load false 1 (.t 67), none⟩, 
                        ⟨some 69, .len (.t 68), none⟩, 
                        ⟨some 70, .fieldA 4 (.t 3), none⟩, 
                        ⟨some 71, .load false 1 (.t 70), none⟩, 
                        ⟨some 72, .len (.t 71), none⟩, 
                        ⟨some 73, .call 93 [.t 69, .t 72], none⟩, 
                        ⟨some 8, .move (.t 73), none⟩] false)
                    (.seq
                      (.ops [⟨some 74, .move (.t 8), none⟩, 
                          ⟨some 75, .bin .neq (.t 74) (.c (.int .i64 0)), none⟩] false)
                      (.cond (.t 75)
                        (.seq
                          (.ops [⟨some 76, .move (.t 8), none⟩, 
                              ⟨some 4, .move (.t 76), none⟩] false)
                          (.ret))
                        (.skip))))
                  (.seq
                    (.seq
                      (.ops [⟨some 77, .fieldA 4 (.t 2), none⟩, 
                          ⟨some 78, .load false 1 (.t 77), none⟩, 
                          ⟨some 79, .len (.t 78), none⟩, 
                          ⟨some 80, .move (.c (.int .i64 0)), none⟩] false)
                      (.block 2
                        (.loop L81_1)))
                    (.seq
                      (.ops [⟨some 4, .move (.c (.int .i64 0)), none⟩] false)
                      (.ret))))))))) }

/- slices.Equal[[]int,int] -/
def L82_0 : AC :=
  .seq
    (.ops [⟨some 14, .bin .lss (.t 13) (.t 12), none⟩] false)
    (.seq
      (.cond (.t 14)
        (.skip)
        (.exit 0))
      (.seq
        (.block 1
          (.seq
            (.ops [⟨some 15, .move (.t 13), none⟩, 
                ⟨some 5, .move (.t 15), none⟩] false)
            (.seq
              (.ops [⟨some 16, .move (.t 0), none⟩, 
                  ⟨some 17, .move (.t 5), none⟩, 
                  ⟨some 18, .idxA 1 (.t 16) (.t 17), none⟩, 
                  ⟨some 19, .load false 1 (.t 18), none⟩, 
                  ⟨some 20, .move (.t 1), none⟩, 
                  ⟨some 21, .move (.t 5), none⟩, 
                  ⟨some 22, .idxA 1 (.t 20) (.t 21), none⟩, 
                  ⟨some 23, .load false 1 (.t 22), none⟩, 
                  ⟨some 24, .bin .neq (.t 19) (.t 23), none⟩] true)
              (.cond (.t 24)
                (.seq
                  (.ops [⟨some 4, .move (.c (.bool false)), none⟩] false)
                  (.ret))
                (.skip)))))
        (.ops [⟨some 25, .bin .add (.t 13) (.c (.int .i64 1)), none⟩, 
            ⟨some 13, .move (.t 25), none⟩] false)))
def F82 : AF :=
  { ntmps := 26, results := [.tmp 4], pure := true, body :=
    .seq
      (.ops [⟨some 4, .move (.c (.bool false)), none⟩] false)
      (.seq
        (.seq
          (.ops [⟨some 6, .move (.t 0), none⟩, 
              ⟨some 7, .len (.t 6), none⟩, 
              ⟨some 8, .move (.t 1), none⟩, 
              ⟨some 9, .len (.t 8), none⟩, 
              ⟨some 10, .bin .neq (.t 7) (.t 9), none⟩] false)
          (.cond (.t 10)
            (.seq
              (.ops [⟨some 4, .move (.c (.bool false)), none⟩] false)
              (.ret))
            (.skip)))
        (.seq
          (.seq
            (.ops [⟨some 11, .move (.t 0), none⟩, 
                ⟨some 12, .len (.t 11), none⟩, 
                ⟨some 13, .move (.c (.int .i64 0)), none⟩] false)
            (.block 0
              (.loop L82_0)))
          (.seq
            (.ops [⟨some 4, .move (.c (.bool true)), none⟩] false)
            (.ret)))) }

/- slices.Equal[[]sequitur/api.Mono,sequitur/api.Mono] -/
def L83_0 : AC :=
  .seq
    (.ops [⟨some 14, .bin .lss (.t 13) (.t 12), none⟩] false)
    (.seq
      (.cond (.t 14)
        (.skip)
        (.exit 0))
      (.seq
        (.block 1
          (.seq
            (.ops [⟨some 15, .move (.t 13), none⟩, 
                ⟨some 5, .move (.t 15), none⟩] false)
            (.seq
              (.ops [⟨some 16, .move (.t 0), none⟩, 
                  ⟨some 17, .move (.t 5), none⟩, 
                  ⟨some 18, .idxA 2 (.t 16) (.t 17), none⟩, 
                  ⟨some 19, .load true 2 (.t 18), none⟩, 
                  ⟨some 20, .move (.t 1), none⟩, 
                  ⟨some 21, .move (.t 5), none⟩, 
                  ⟨some 22, .idxA 2 (.t 20) (.t 21), none⟩, 
                  ⟨some 23, .load true 2 (.t 22), none⟩, 
                  ⟨some 24, .aeq [2, 2] true (.t 19) (.t 23), none⟩] true)
              (.cond (.t 24)
                (.seq
                  (.ops [⟨some 4, .move (.c (.bool false)), none⟩] false)
                  (.ret))
                (.skip)))))
        (.ops [⟨some 25, .bin .add (.t 13) (.c (.int .i64 1)), none⟩, 
            ⟨some 13, .move (.t 25), none⟩] false)))
def F83 : AF :=
  { ntmps := 26, results := [.tmp 4], pure := true, body :=
    .seq
      (.ops [⟨some 4, .move (.c (.bool false)), none⟩] false)
      (.seq
        (.seq
          (.ops [⟨some 6, .move (.t 0), none⟩, 
              ⟨some 7, .len (.t 6), none⟩, 
              ⟨some 8, .move (.t 1), none⟩, 
              ⟨some 9, .len (.t 8), none⟩, 
              ⟨some 10, .bin .neq (.t 7) (.t 9), none⟩] false)
          (.cond (.t 10)
            (.seq
              (.ops [⟨some 4, .move (.c (.bool false)), none⟩] false)
              (.ret))
            (.skip)))
        (.seq
          (.seq
            (.ops [⟨some 11, .move (.t 0), none⟩, 
                ⟨some 12, .len (.t 11), none⟩, 
                ⟨some 13, .move (.c (.int .i64 0)), none⟩] false)
            (.block 0
              (.loop L83_0)))
          (.seq
            (.ops [⟨some 4, .move (.c (.bool true)), none⟩] false)
            (.ret)))) }

/- slices.Equal[[]int64,int64] -/
def L84_0 : AC :=
  .seq
    (.ops [⟨some 14, .bin .lss (.t 13) (.t 12), none⟩] false)
    (.seq
      (.cond (.t 14)
        (.skip)
        (.exit 0))
      (.seq
        (.block 1
          (.seq
            (.ops [⟨some 15, .move (.t 13), none⟩, 
                ⟨some 5, .move (.t 15), none⟩] false)
            (.seq
              (.ops [⟨some 16, .move (.t 0), none⟩, 
                  ⟨some 17, .move (.t 5), none⟩, 
                  ⟨some 18, .idxA 1 (.t 16) (.t 17), none⟩, 
                  ⟨some 19, .load false 1 (.t 18), none⟩, 
                  ⟨some 20, .move (.t 1), none⟩, 
                  ⟨some 21, .move (.t 5), none⟩, 
                  ⟨some 22, .idxA 1 (.t 20) (.t 21), none⟩, 
                  ⟨some 23, .load false 1 (.t 22), none⟩, 
                  ⟨some 24, .bin .neq (.t 19) (.t 23), none⟩] true)
              (.cond (.t 24)
                (.seq
                  (.ops [⟨some 4, .move (.c (.bool false)), none⟩] false)
                  (.ret))
                (.skip)))))
        (.ops [⟨some 25, .bin .add (.t 13) (.c (.int .i64 1)), none⟩, 
            ⟨some 13, .move (.t 25), none⟩] false)))
def F84 : AF :=
  { ntmps := 26, results := [.tmp 4], pure := true, body :=
    .seq
      (.ops [⟨some 4, .move (.c (.bool false)), none⟩] false)
      (.seq
        (.seq
          (.ops [⟨some 6, .move (.t 0), none⟩, 
              ⟨some 7, .len (.t 6), none⟩, 
              ⟨some 8, .move (.t 1), none⟩, 
              ⟨some 9, .len (.t 8), none⟩, 
              ⟨some 10, .bin .neq (.t 7) (.t 9), none⟩] false)
          (.cond (.t 10)
            (.seq
              (.ops [⟨some 4, .move (.c (.bool false)), none⟩] false)
              (.ret))
            (.skip)))
        (.seq
          (.seq
            (.ops [⟨some 11, .move (.t 0), none⟩, 
                ⟨some 12, .len (.t 11), none⟩, 
                ⟨some 13, .move (.c (.int .i64 0)), none⟩] false)
            (.block 0
              (.loop L84_0)))
          (.seq
            (.ops [⟨some 4, .move (.c (.bool true)), none⟩] false)
            (.ret)))) }

/- slices.EqualFunc[[]sequitur/api.Cut,[]sequitur/api.Cut,sequitur/api.Cut,sequitur/api.Cut] -/
def L85_0 : AC :=
  .seq
    (.ops [⟨some 18, .bin .lss (.t 17) (.t 16), none⟩] false)
    (.seq
      (.cond (.t 18)
        (.skip)
        (.exit 0))
      (.seq
        (.block 1
          (.seq
            (.ops [⟨some 19, .move (.t 17), none⟩, 
                ⟨some 20, .idxA 7 (.t 15) (.t 17), none⟩, 
                ⟨some 21, .load true 7 (.t 20), none⟩, 
                ⟨some 8, .alloc 37 [.int .i64 0, .fsl 1 [], .fsl 1 [], .int .i64 0, .int .i64 0, .fsl 2 [], .fsl 7 []], none⟩, 
                ⟨some 7, .move (.t 19), none⟩, 
                ⟨none, .store 7 (.t 8) (.t 21), none⟩] false)
            (.seq
              (.ops [⟨some 22, .move (.t 1), none⟩, 
                  ⟨some 23, .move (.t 7), none⟩, 
                  ⟨some 24, .idxA 7 (.t 22) (.t 23), none⟩, 
                  ⟨some 25, .load true 7 (.t 24), none⟩, 
                  ⟨some 9, .alloc 37 [.int .i64 0, .fsl 1 [], .fsl 1 [], .int .i64 0, .int .i64 0, .fsl 2 [], .fsl 7 []], none⟩, 
                  ⟨none, .store 7 (.t 9) (.t 25), none⟩] false)
              (.seq
                (.ops [⟨some 26, .move (.t 2), none⟩, 
                    ⟨some 27, .load true 7 (.t 8), none⟩, 
                    ⟨some 28, .load true 7 (.t 9), none⟩, 
                    ⟨some 29, .callv (.t 26) [.t 27, .t 28], none⟩, 
                    ⟨some 30, .not (.t 29), none⟩] false)
                (.cond (.t 30)
                  (.seq
                    (.ops [⟨some 6, .move (.c (.bool false)), none⟩] false)
                    (.ret))
                  (.skip))))))
        (.ops [⟨some 31, .bin .add (.t 17) (.c (.int .i64 1)), none⟩, 
            ⟨some 17, .move (.t 31), none⟩] false)))
def F85 : AF :=
  { ntmps := 32, results := [.tmp 6], pure := true, body :=
    .seq
      (.ops [⟨some 6, .move (.c (.bool false)), none⟩] false)
      (.seq
        (.seq
          (.ops [⟨some 10, .move (.t 0), none⟩, 
              ⟨some 11, .len (.t 10), none⟩, 
              ⟨some 12, .move (.t 1), none⟩, 
              ⟨some 13, .len (.t 12), none⟩, 
              ⟨some 14, .bin .neq (.t 11) (.t 13), none⟩] false)
          (.cond (.t 14)
            (.seq
              (.ops [⟨some 6, .move (.c (.bool false)), none⟩] false)
              (.ret))
            (.skip)))
        (.seq
          (.seq
            (.ops [⟨some 15, .move (.t 0), none⟩, 
                ⟨some 16, .len (.t 15), none⟩, 
                ⟨some 17, .move (.c (.int .i64 0)), none⟩] false)
            (.block 0
              (.loop L85_0)))
          (.seq
            (.ops [⟨some 6, .move (.c (.bool true)), none⟩] false)
            (.ret)))) }

/- sequitur/sequiturbase.Claims -/
def L86_0 : AC :=
  .seq
    (.seq
      (.ops [⟨some 11, .move (.t 5), none⟩, 
          ⟨some 12, .move (.t 0), none⟩, 
          ⟨some 13, .len (.t 12), none⟩, 
          ⟨some 14, .bin .lss (.t 11) (.t 13), none⟩] false)
      (.cond (.t 14)
        (.skip)
        (.exit 0)))
    (.seq
      (.block 1
        (.seq
          (.ops [⟨some 17, .move (.t 0), none⟩, 
              ⟨some 18, .move (.t 5), none⟩, 
              ⟨some 19, .idxA 5 (.t 17) (.t 18), none⟩, 
              ⟨some 20, .load true 5 (.t 19), none⟩, 
              ⟨some 21, .move (.t 1), none⟩, 
              ⟨some 22, .move (.t 5), none⟩, 
              ⟨some 23, .idxA 5 (.t 21) (.t 22), none⟩, 
              ⟨some 24, .load true 5 (.t 23), none⟩, 
              ⟨some 25, .call 63 [.t 20, .t 24], none⟩, 
              ⟨some 26, .not (.t 25), none⟩] true)
          (.cond (.t 26)
            (.seq
              (.ops [⟨some 4, .move (.c (.bool false)), none⟩] false)
              (.ret))
            (.skip))))
      (.ops [⟨some 15, .move (.t 5), none⟩, 
          ⟨some 16, .bin .add (.t 15) (.c (.int .i64 1)), none⟩, 
          ⟨some 5, .move (.t 16), none⟩] false))
def F86 : AF :=
  { ntmps := 27, results := [.tmp 4], pure := true, body :=
    .seq
      (.ops [⟨some 4, .move (.c (.bool false)), none⟩] false)
      (.seq
        (.seq
          (.ops [⟨some 6, .move (.t 0), none⟩, 
              ⟨some 7, .len (.t 6), none⟩, 
              ⟨some 8, .move (.t 1), none⟩, 
              ⟨some 9, .len (.t 8), none⟩, 
              ⟨some 10, .bin .neq (.t 7) (.t 9), none⟩] false)
          (.cond (.t 10)
            (.seq
              (.ops [⟨some 4, .move (.c (.bool false)), none⟩] false)
              (.ret))
            (.skip)))
        (.seq
          (.seq
            (.ops [⟨some 5, .move (.c (.int .i64 0)), none⟩] false)
            (.block 0
              (.loop L86_0)))
          (.seq
            (.ops [⟨some 4, .move (.c (.bool true)), none⟩] false)
            (.ret)))) }

/- sequitur/sequiturbase.Lemmas -/
def L87_0 : AC :=
  .seq
    (.seq
      (.ops [⟨some 11, .move (.t 5), none⟩, 
          ⟨some 12, .move (.t 0), none⟩, 
          ⟨some 13, .len (.t 12), none⟩, 
          ⟨some 14, .bin .lss (.t 11) (.t 13), none⟩] false)
      (.cond (.t 14)
        (.skip)
        (.exit 0)))
    (.seq
      (.block 1
        (.seq
          (.ops [⟨some 17, .move (.t 0), none⟩, 
              ⟨some 18, .move (.t 5), none⟩, 
              ⟨some 19, .idxA 8 (.t 17) (.t 18), none⟩, 
              ⟨some 20, .load true 8 (.t 19), none⟩, 
              ⟨some 21, .move (.t 1), none⟩, 
              ⟨some 22, .move (.t 5), none⟩, 
              ⟨some 23, .idxA 8 (.t 21) (.t 22), none⟩, 
              ⟨some 24, .load true 8 (.t 23), none⟩, 
              ⟨some 25, .call 98 [.t 20, .t 24], none⟩, 
              ⟨some 26, .not (.t 25), none⟩] true)
          (.cond (.t 26)
            (.seq
              (.ops [⟨some 4, .move (.c (.bool false)), none⟩] false)
              (.ret))
            (.skip))))
      (.ops [⟨some 15, .move (.t 5), none⟩, 
          ⟨some 16, .bin .add (.t 15) (.c (.int .i64 1)), none⟩, 
          ⟨some 5, .move (.t 16), none⟩] false))
def F87 : AF :=
  { ntmps := 27, results := [.tmp 4], pure := true, body :=
    .seq
      (.ops [⟨some 4, .move (.c (.bool false)), none⟩] false)
      (.seq
        (.seq
          (.ops [⟨some 6, .move (.t 0), none⟩, 
              ⟨some 7, .len (.t 6), none⟩, 
              ⟨some 8, .move (.t 1), none⟩, 
              ⟨some 9, .len (.t 8), none⟩, 
              ⟨some 10, .bin .neq (.t 7) (.t 9), none⟩] false)
          (.cond (.t 10)
            (.seq
              (.ops [⟨some 4, .move (.c (.bool false)), none⟩] false)
              (.ret))
            (.skip)))
        (.seq
          (.seq
            (.ops [⟨some 5, .move (.c (.int .i64 0)), none⟩] false)
            (.block 0
              (.loop L87_0)))
          (.seq
            (.ops [⟨some 4, .move (.c (.bool true)), none⟩] false)
            (.ret)))) }

/- sequitur/sequiturbase.Chains -/
def L88_0 : AC :=
  .seq
    (.seq
      (.ops [⟨some 11, .move (.t 5), none⟩, 
          ⟨some 12, .move (.t 0), none⟩, 
          ⟨some 13, .len (.t 12), none⟩, 
          ⟨some 14, .bin .lss (.t 11) (.t 13), none⟩] false)
      (.cond (.t 14)
        (.skip)
        (.exit 0)))
    (.seq
      (.block 1
        (.seq
          (.ops [⟨some 17, .move (.t 0), none⟩, 
              ⟨some 18, .move (.t 5), none⟩, 
              ⟨some 19, .idxA 2 (.t 17) (.t 18), none⟩, 
              ⟨some 20, .load true 2 (.t 19), none⟩, 
              ⟨some 21, .move (.t 1), none⟩, 
              ⟨some 22, .move (.t 5), none⟩, 
              ⟨some 23, .idxA 2 (.t 21) (.t 22), none⟩, 
              ⟨some 24, .load true 2 (.t 23), none⟩, 
              ⟨some 25, .call 99 [.t 20, .t 24], none⟩, 
              ⟨some 26, .not (.t 25), none⟩] true)
          (.cond (.t 26)
            (.seq
              (.ops [⟨some 4, .move (.c (.bool false)), none⟩] false)
              (.ret))
            (.skip))))
      (.ops [⟨some 15, .move (.t 5), none⟩, 
          ⟨some 16, .bin .add (.t 15) (.c (.int .i64 1)), none⟩, 
          ⟨some 5, .move (.t 16), none⟩] false))
def F88 : AF :=
  { ntmps := 27, results := [.tmp 4], pure := true, body :=
    .seq
      (.ops [⟨some 4, .move (.c (.bool false)), none⟩] false)
      (.seq
        (.seq
          (.ops [⟨some 6, .move (.t 0), none⟩, 
              ⟨some 7, .len (.t 6), none⟩, 
              ⟨some 8, .move (.t 1), none⟩, 
              ⟨some 9, .len (.t 8), none⟩, 
              ⟨some 10, .bin .neq (.t 7) (.t 9), none⟩] false)
          (.cond (.t 10)
            (.seq
              (.ops [⟨some 4, .move (.c (.bool false)), none⟩] false)
              (.ret))
            (.skip)))
        (.seq
          (.seq
            (.ops [⟨some 5, .move (.c (.int .i64 0)), none⟩] false)
            (.block 0
              (.loop L88_0)))
          (.seq
            (.ops [⟨some 4, .move (.c (.bool true)), none⟩] false)
            (.ret)))) }

/- sequitur/sequiturbase.Cut -/
def F89 : AF :=
  { ntmps := 45, results := [.tmp 4], pure := true, body :=
    .seq
      (.ops [⟨some 2, .box 37 (.t 0), none⟩, 
          ⟨some 3, .box 37 (.t 1), none⟩, 
          ⟨some 4, .move (.c (.bool false)), none⟩] false)
      (.seq
        (.ops [⟨some 5, .fieldA 0 (.t 2), none⟩, 
            ⟨some 6, .load false 1 (.t 5), none⟩, 
            ⟨some 7, .fieldA 0 (.t 3), none⟩, 
            ⟨some 8, .load false 1 (.t 7), none⟩, 
            ⟨some 9, .bin .eql (.t 6) (.t 8), none⟩, 
            ⟨some 10, .move (.t 9), none⟩, 
            ⟨some 11, .fieldA 3 (.t 2), some (10, true)⟩, 
            ⟨some 12, .load false 1 (.t 11), some (10, true)⟩, 
            ⟨some 13, .fieldA 3 (.t 3), some (10, true)⟩, 
            ⟨some 14, .load false 1 (.t 13), some (10, true)⟩, 
            ⟨some 15, .bin .eql (.t 12) (.t 14), some (10, true)⟩, 
            ⟨some 16, .pick (.t 10) (.t 15) (.c (.bool false)), none⟩, 
            ⟨some 17, .move (.t 16), none⟩, 
            ⟨some 18, .fieldA 1 (.t 2), some (17, true)⟩, 
            ⟨some 19, .load false 1 (.t 18), some (17, true)⟩, 
            ⟨some 20, .fieldA 1 (.t 3), some (17, true)⟩, 
            ⟨some 21, .load false 1 (.t 20), some (17, true)⟩, 
            ⟨some 22, .call 12 [.t 19, .t 21], some (17, true)⟩, 
            ⟨some 23, .pick (.t 17) (.t 22) (.c (.bool false)), none⟩, 
            ⟨some 24, .move (.t 23), none⟩, 
            ⟨some 25, .fieldA 2 (.t 2), some (24, true)⟩, 
            ⟨some 26, .load false 1 (.t 25), some (24, true)⟩, 
            ⟨some 27, .fieldA 2 (.t 3), some (24, true)⟩, 
            ⟨some 28, .load false 1 (.t 27), some (24, true)⟩, 
            ⟨some 29, .call 100 [.t 26, .t 28], some (24, true)⟩, 
            ⟨some 30, .pick (.t 24) (.t 29) (.c (.bool false)), none⟩, 
            ⟨some 31, .move (.t 30), none⟩, 
            ⟨some 32, .fieldA 4 (.t 2), some (31, true)⟩, 
            ⟨some 33, .load true 2 (.t 32), some (31, true)⟩, 
            ⟨some 34, .fieldA 4 (.t 3), some (31, true)⟩, 
            ⟨some 35, .load true 2 (.t 34), some (31, true)⟩, 
            ⟨some 36, .call 101 [.t 33, .t 35], some (31, true)⟩, 
            ⟨some 37, .pick (.t 31) (.t 36) (.c (.bool false)), none⟩, 
            ⟨some 38, .move (.t 37), none⟩, 
            ⟨some 39, .fieldA 6 (.t 2), some (38, true)⟩, 
            ⟨some 40, .load false 1 (.t 39), some (38, true)⟩, 
            ⟨some 41, .fieldA 6 (.t 3), some (38, true)⟩, 
            ⟨some 42, .load false 1 (.t 41), some (38, true)⟩, 
            ⟨some 43, .call 102 [.t 40, .t 42], some (38, true)⟩, 
            ⟨some 44, .pick (.t 38) (.t 43) (.c (.bool false)), none⟩, 
            ⟨some 4, .move (.t 44), none⟩] false)
        (.ret)) }

/- sequitur/sequiturbase.weight -/
def L90_0 : AC :=
  .seq
    (.seq
      (.ops [⟨some 8, .move (.t 6), none⟩, 
          ⟨some 9, .fieldA 3 (.t 2), none⟩, 
          ⟨some 10, .load false 1 (.t 9), none⟩, 
          ⟨some 11, .len (.t 10), none⟩, 
          ⟨some 12, .bin .lss (.t 8) (.t 11), none⟩, 
          ⟨some 13, .move (.t 12), none⟩, 
          ⟨some 14, .move (.t 5), some (13, true)⟩, 
          ⟨some 15, .move (.t 1), some (13, true)⟩, 
          ⟨some 16, .bin .leq (.t 14) (.t 15), some (13, true)⟩, 
          ⟨some 17, .pick (.t 13) (.t 16) (.c (.bool false)), none⟩] false)
      (.cond (.t 17)
        (.skip)
        (.exit 0)))
    (.seq
      (.block 1
        (.ops [⟨some 20, .move (.t 5), none⟩, 
            ⟨some 21, .fieldA 3 (.t 2), none⟩, 
            ⟨some 22, .load false 1 (.t 21), none⟩, 
            ⟨some 23, .move (.t 6), none⟩, 
            ⟨some 24, .idxA 4 (.t 22) (.t 23), none⟩, 
            ⟨some 25, .load true 4 (.t 24), none⟩, 
            ⟨some 26, .move (.t 1), none⟩, 
            ⟨some 27, .move (.t 5), none⟩, 
            ⟨some 28, .bin .sub (.t 26) (.t 27), none⟩, 
            ⟨some 29, .call 66 [.t 25, .t 28], none⟩, 
            ⟨some 30, .bin .add (.t 20) (.t 29), none⟩, 
            ⟨some 5, .move (.t 30), none⟩] false))
      (.ops [⟨some 18, .move (.t 6), none⟩, 
          ⟨some 19, .bin .add (.t 18) (.c (.int .i64 1)), none⟩, 
          ⟨some 6, .move (.t 19), none⟩] false))

def L90_1 : AC :=
  .seq
    (.seq
      (.ops [⟨some 31, .move (.t 7), none⟩, 
          ⟨some 32, .fieldA 4 (.t 2), none⟩, 
          ⟨some 33, .load false 1 (.t 32), none⟩, 
          ⟨some 34, .len (.t 33), none⟩, 
          ⟨some 35, .bin .lss (.t 31) (.t 34), none⟩, 
          ⟨some 36, .move (.t 35), none⟩, 
          ⟨some 37, .move (.t 5), some (36, true)⟩, 
          ⟨some 38, .move (.t 1), some (36, true)⟩, 
          ⟨some 39, .bin .leq (.t 37) (.t 38), some (36, true)⟩, 
          ⟨some 40, .pick (.t 36) (.t 39) (.c (.bool false)), none⟩] false)
      (.cond (.t 40)
        (.skip)
        (.exit 2)))
    (.seq
      (.block 3
        (.ops [⟨some 43, .move (.t 5), none⟩, 
            ⟨some 44, .fieldA 4 (.t 2), none⟩, 
            ⟨some 45, .load false 1 (.t 44), none⟩, 
            ⟨some 46, .move (.t 7), none⟩, 
            ⟨some 47, .idxA 5 (.t 45) (.t 46), none⟩, 
            ⟨some 48, .load true 5 (.t 47), none⟩, 
            ⟨some 49, .move (.t 1), none⟩, 
            ⟨some 50, .move (.t 5), none⟩, 
            ⟨some 51, .bin .sub (.t 49) (.t 50), none⟩, 
            ⟨some 52, .call 90 [.t 48, .t 51], none⟩, 
            ⟨some 53, .bin .add (.t 43) (.t 52), none⟩, 
            ⟨some 5, .move (.t 53), none⟩] false))
      (.ops [⟨some 41, .move (.t 7), none⟩, 
          ⟨some 42, .bin .add (.t 41) (.c (.int .i64 1)), none⟩, 
          ⟨some 7, .move (.t 42), none⟩] false))
def F90 : AF :=
  { ntmps := 55, results := [.tmp 4], pure := true, body :=
    .seq
      (.ops [⟨some 2, .box 27 (.t 0), none⟩, 
          ⟨some 4, .move (.c (.int .i64 0)), none⟩] false)
      (.seq
        (.ops [⟨some 5, .move (.c (.int .i64 1)), none⟩] false)
        (.seq
          (.seq
            (.ops [⟨some 6, .move (.c (.int .i64 0)), none⟩] false)
            (.block 0
              (.loop L90_0)))
          (.seq
            (.seq
              (.ops [⟨some 7, .move (.c (.int .i64 0)), none⟩] false)
              (.block 2
                (.loop L90_1)))
            (.seq
              (.ops [⟨some 54, .move (.t 5), none⟩, 
                  ⟨some 4, .move (.t 54), none⟩] false)
              (.ret))))) }

/- cmp.Or[int] -/
def L92_0 : AC :=
  .seq
    (.ops [⟨some 9, .bin .lss (.t 8) (.t 7), none⟩] false)
    (.seq
      (.cond (.t 9)
        (.skip)
        (.exit 0))
      (.seq
        (.block 1
          (.seq
            (.ops [⟨some 10, .idxA 1 (.t 6) (.t 8), none⟩, 
                ⟨some 11, .load false 1 (.t 10), none⟩, 
                ⟨some 5, .move (.t 11), none⟩] false)
            (.seq
              (.ops [⟨some 12, .move (.t 5), none⟩, 
                  ⟨some 13, .move (.t 3), none⟩, 
                  ⟨some 14, .bin .neq (.t 12) (.t 13), none⟩] false)
              (.cond (.t 14)
                (.seq
                  (.ops [⟨some 15, .move (.t 5), none⟩, 
                      ⟨some 2, .move (.t 15), none⟩] false)
                  (.ret))
                (.skip)))))
        (.ops [⟨some 16, .bin .add (.t 8) (.c (.int .i64 1)), none⟩, 
            ⟨some 8, .move (.t 16), none⟩] false)))
def F92 : AF :=
  { ntmps := 18, results := [.tmp 2], pure := true, body :=
    .seq
      (.ops [⟨some 2, .move (.c (.int .i64 0)), none⟩] false)
      (.seq
        (.ops [⟨some 3, .move (.c (.int .i64 0)), none⟩] false)
        (.seq
          (.seq
            (.ops [⟨some 6, .move (.t 0), none⟩, 
                ⟨some 7, .len (.t 6), none⟩, 
                ⟨some 8, .move (.c (.int .i64 0)), none⟩] false)
            (.block 0
              (.loop L92_0)))
          (.seq
            (.ops [⟨some 17, .move (.t 3), none⟩, 
                ⟨some 2, .move (.t 17), none⟩] false)
            (.ret)))) }

/- cmp.Compare[int] -/
def F93 : AF :=
  { ntmps := 20, results := [.tmp 4], pure := true, body :=
    .seq
      (.ops [⟨some 4, .move (.c (.int .i64 0)), none⟩] false)
      (.seq
        (.ops [⟨some 7, .move (.t 0), none⟩, 
            ⟨some 8, .call 103 [.t 7], none⟩, 
            ⟨some 5, .move (.t 8), none⟩] false)
        (.seq
          (.ops [⟨some 9, .move (.t 1), none⟩, 
              ⟨some 10, .call 103 [.t 9], none⟩, 
              ⟨some 6, .move (.t 10), none⟩] false)
          (.seq
            (.seq
              (.ops [⟨some 11, .move (.t 5), none⟩] false)
              (.cond (.t 11)
                (.seq
                  (.seq
                    (.ops [⟨some 12, .move (.t 6), none⟩] false)
                    (.cond (.t 12)
                      (.seq
                        (.ops [⟨some 4, .move (.c (.int .i64 0)), none⟩] false)
                        (.ret))
                      (.skip)))
                  (.seq
                    (.ops [⟨some 4, .move (.c (.int .i64 (-1))), none⟩] false)
                    (.ret)))
                (.skip)))
            (.seq
              (.seq
                (.ops [⟨some 13, .move (.t 6), none⟩] false)
                (.cond (.t 13)
                  (.seq
                    (.ops [⟨some 4, .move (.c (.int .i64 1)), none⟩] false)
                    (.ret))
                  (.skip)))
              (.seq
                (.seq
                  (.ops [⟨some 14, .move (.t 0), none⟩, 
                      ⟨some 15, .move (.t 1), none⟩, 
                      ⟨some 16, .bin .lss (.t 14) (.t 15), none⟩] false)
                  (.cond (.t 16)
                    (.seq
                      (.ops [⟨some 4, .move (.c (.int .i64 (-1))), none⟩] false)
                      (.ret))
                    (.skip)))
                (.seq
                  (.seq
                    (.ops [⟨some 17, .move (.t 0), none⟩, 
                        ⟨some 18, .move (.t 1), none⟩, 
                        ⟨some 19, .bin .gtr (.t 17) (.t 18), none⟩] false)
                    (.cond (.t 19)
                      (.seq
                        (.ops [⟨some 4, .move (.c (.int .i64 1)), none⟩] false)
                        (.ret))
                      (.skip)))
                  (.seq
                    (.ops [⟨some 4, .move (.c (.int .i64 0)), none⟩] false)
                    (.ret)))))))) }

/- cmp.Compare[int64] -/
def F94 : AF :=
  { ntmps := 20, results := [.tmp 4], pure := true, body :=
    .seq
      (.ops [⟨some 4, .move (.c (.int .i64 0)), none⟩] false)
      (.seq
        (.ops [⟨some 7, .move (.t 0), none⟩, 
            ⟨some 8, .call 104 [.t 7], none⟩, 
            ⟨some 5, .move (.t 8), none⟩] false)
        (.seq
          (.ops [⟨some 9, .move (.t 1), none⟩, 
              ⟨some 10, .call 104 [.t 9], none⟩, 
              ⟨some 6, .move (.t 10), none⟩] false)
          (.seq
            (.seq
              (.ops [⟨some 11, .move (.t 5), none⟩] false)
              (.cond (.t 11)
                (.seq
                  (.seq
                    (.ops [⟨some 12, .move (.t 6), none⟩] false)
                    (.cond (.t 12)
                      (.seq
                        (.ops [⟨some 4, .move (.c (.int .i64 0)), none⟩] false)
                        (.ret))
                      (.skip)))
                  (.seq
                    (.ops [⟨some 4, .move (.c (.int .i64 (-1))), none⟩] false)
                    (.ret)))
                (.skip)))
            (.seq
              (.seq
                (.ops [⟨some 13, .move (.t 6), none⟩] false)
                (.cond (.t 13)
                  (.seq
                    (.ops [⟨some 4, .move (.c (.int .i64 1)), none⟩] false)
                    (.ret))
                  (.skip)))
              (.seq
                (.seq
                  (.ops [⟨some 14, .move (.t 0), none⟩, 
                      ⟨some 15, .move (.t 1), none⟩, 
                      ⟨some 16, .bin .lss (.t 14) (.t 15), none⟩] false)
                  (.cond (.t 16)
                    (.seq
                      (.ops [⟨some 4, .move (.c (.int .i64 (-1))), none⟩] false)
                      (.ret))
                    (.skip)))
                (.seq
                  (.seq
                    (.ops [⟨some 17, .move (.t 0), none⟩, 
                        ⟨some 18, .move (.t 1), none⟩, 
                        ⟨some 19, .bin .gtr (.t 17) (.t 18), none⟩] false)
                    (.cond (.t 19)
                      (.seq
                        (.ops [⟨some 4, .move (.c (.int .i64 1)), none⟩] false)
                        (.ret))
                      (.skip)))
                  (.seq
                    (.ops [⟨some 4, .move (.c (.int .i64 0)), none⟩] false)
                    (.ret)))))))) }

/- cmp.Compare[string] -/
def F95 : AF :=
  { ntmps := 20, results := [.tmp 4], pure := true, body :=
    .seq
      (.ops [⟨some 4, .move (.c (.int .i64 0)), none⟩] false)
      (.seq
        (.ops [⟨some 7, .move (.t 0), none⟩, 
            ⟨some 8, .call 105 [.t 7], none⟩, 
            ⟨some 5, .move (.t 8), none⟩] false)
        (.seq
          (.ops [⟨some 9, .move (.t 1), none⟩, 
              ⟨some 10, .call 105 [.t 9], none⟩, 
              ⟨some 6, .move (.t 10), none⟩] false)
          (.seq
            (.seq
              (.ops [⟨some 11, .move (.t 5), none⟩] false)
              (.cond (.t 11)
                (.seq
                  (.seq
                    (.ops [⟨some 12, .move (.t 6), none⟩] false)
                    (.cond (.t 12)
                      (.seq
                        (.ops [⟨some 4, .move (.c (.int .i64 0)), none⟩] false)
                        (.ret))
                      (.skip)))
                  (.seq
                    (.ops [⟨some 4, .move (.c (.int .i64 (-1))), none⟩] false)
                    (.ret)))
                (.skip)))
            (.seq
              (.seq
                (.ops [⟨some 13, .move (.t 6), none⟩] false)
                (.cond (.t 13)
                  (.seq
                    (.ops [⟨some 4, .move (.c (.int .i64 1)), none⟩] false)
                    (.ret))
                  (.skip)))
              (.seq
                (.seq
                  (.ops [⟨some 14, .move (.t 0), none⟩, 
                      ⟨some 15, .move (.t 1), none⟩, 
                      ⟨some 16, .bin .lss (.t 14) (.t 15), none⟩] false)
                  (.cond (.t 16)
                    (.seq
                      (.ops [⟨some 4, .move (.c (.int .i64 (-1))), none⟩] false)
                      (.ret))
                    (.skip)))
                (.seq
                  (.seq
                    (.ops [⟨some 17, .move (.t 0), none⟩, 
                        ⟨some 18, .move (.t 1), none⟩, 
                        ⟨some 19, .bin .gtr (.t 17) (.t 18), none⟩] false)
                    (.cond (.t 19)
                      (.seq
                        (.ops [⟨some 4, .move (.c (.int .i64 1)), none⟩] false)
                        (.ret))
                      (.skip)))
                  (.seq
                    (.ops [⟨some 4, .move (.c (.int .i64 0)), none⟩] false)
                    (.ret)))))))) }

/- slices.CompareFunc[[]sequitur/api.Term,[]sequitur/api.Term,sequitur/api.Term,sequitur/api.Term] -/
def L96_0 : AC :=
  .seq
    (.ops [⟨some 14, .bin .lss (.t 13) (.t 12), none⟩] false)
    (.seq
      (.cond (.t 14)
        (.skip)
        (.exit 0))
      (.seq
        (.block 1
          (.seq
            (.ops [⟨some 15, .move (.t 13), none⟩, 
                ⟨some 16, .idxA 4 (.t 11) (.t 13), none⟩, 
                ⟨some 17, .load true 4 (.t 16), none⟩, 
                ⟨some 8, .alloc 24 [.int .i64 0, .str ⟨#[]⟩, .int .i64 0, .fsl 4 []], none⟩, 
                ⟨some 7, .move (.t 15), none⟩, 
                ⟨none, .store 4 (.t 8) (.t 17), none⟩] false)
            (.seq
              (.seq
                (.ops [⟨some 18, .move (.t 7), none⟩, 
                    ⟨some 19, .move (.t 1), none⟩, 
                    ⟨some 20, .len (.t 19), none⟩, 
                    ⟨some 21, .bin .geq (.t 18) (.t 20), none⟩] false)
                (.cond (.t 21)
                  (.seq
                    (.ops [⟨some 6, .move (.c (.int .i64 1)), none⟩] false)
                    (.ret))
                  (.skip)))
              (.seq
                (.ops [⟨some 22, .move (.t 1), none⟩, 
                    ⟨some 23, .move (.t 7), none⟩, 
                    ⟨some 24, .idxA 4 (.t 22) (.t 23), none⟩, 
                    ⟨some 25, .load true 4 (.t 24), none⟩, 
                    ⟨some 9, .alloc 24 [.int .i64 0, .str ⟨#[]⟩, .int .i64 0, .fsl 4 []], none⟩, 
                    ⟨none, .store 4 (.t 9) (.t 25), none⟩] false)
                (.seq
                  (.ops [⟨some 26, .move (.t 2), none⟩, 
                      ⟨some 27, .load true 4 (.t 8), none⟩, 
                      ⟨some 28, .load true 4 (.t 9), none⟩, 
                      ⟨some 29, .callv (.t 26) [.t 27, .t 28], none⟩, 
                      ⟨some 10, .move (.t 29), none⟩] false)
                  (.seq
                    (.ops [⟨some 30, .move (.t 10), none⟩, 
                        ⟨some 31, .bin .neq (.t 30) (.c (.int .i64 0)), none⟩] false)
                    (.cond (.t 31)
                      (.seq
                        (.ops [⟨some 32, .move (.t 10), none⟩, 
                            ⟨some 6, .move (.t 32), none⟩] false)
                        (.ret))
                      (.skip))))))))
        (.ops [⟨some 33, .bin .add (.t 13) (.c (.int .i64 1)), none⟩, 
            ⟨some 13, .move (.t 33), none⟩] false)))
def F96 : AF :=
  { ntmps := 39, results := [.tmp 6], pure := true, body :=
    .seq
      (.ops [⟨some 6, .move (.c (.int .i64 0)), none⟩] false)
      (.seq
        (.seq
          (.ops [⟨some 11, .move (.t 0), none⟩, 
              ⟨some 12, .len (.t 11), none⟩, 
              ⟨some 13, .move (.c (.int .i64 0)), none⟩] false)
          (.block 0
            (.loop L96_0)))
        (.seq
          (.seq
            (.ops [⟨some 34, .move (.t 0), none⟩, 
                ⟨some 35, .len (.t 34), none⟩, 
                ⟨some 36, .move (.t 1), none⟩, 
                ⟨some 37, .len (.t 36), none⟩, 
                ⟨some 38, .bin .lss (.t 35) (.t 37), none⟩] false)
            (.cond (.t 38)
              (.seq
                (.ops [⟨some 6, .move (.c (.int .i64 (-1))), none⟩] false)
                (.ret))
              (.skip)))
          (.seq
            (.ops [⟨some 6, .move (.c (.int .i64 0)), none⟩] false)
            (.ret)))) }

/- sequitur/claim.binder -/
def F97 : AF :=
  { ntmps := 11, results := [.tmp 2], pure := true, body :=
    .seq
      (.ops [⟨some 1, .box 27 (.t 0), none⟩, 
          ⟨some 2, .move (.c (.bool false)), none⟩] false)
      (.seq
        (.ops [⟨some 3, .fieldA 0 (.t 1), none⟩, 
            ⟨some 4, .load false 1 (.t 3), none⟩, 
            ⟨some 5, .bin .eql (.t 4) (.c (.int .i64 11)), none⟩, 
            ⟨some 6, .move (.t 5), none⟩, 
            ⟨some 7, .fieldA 0 (.t 1), some (6, false)⟩, 
            ⟨some 8, .load false 1 (.t 7), some (6, false)⟩, 
            ⟨some 9, .bin .eql (.t 8) (.c (.int .i64 12)), some (6, false)⟩, 
            ⟨some 10, .pick (.t 6) (.c (.bool true)) (.t 9), none⟩, 
            ⟨some 2, .move (.t 10), none⟩] false)
        (.ret)) }

/- sequitur/sequiturbase.Lemma -/
def F98 : AF :=
  { ntmps := 17, results := [.tmp 4], pure := true, body :=
    .seq
      (.ops [⟨some 2, .box 76 (.t 0), none⟩, 
          ⟨some 3, .box 76 (.t 1), none⟩, 
          ⟨some 4, .move (.c (.bool false)), none⟩] false)
      (.seq
        (.ops [⟨some 5, .fieldA 0 (.t 2), none⟩, 
            ⟨some 6, .load false 1 (.t 5), none⟩, 
            ⟨some 7, .fieldA 0 (.t 3), none⟩, 
            ⟨some 8, .load false 1 (.t 7), none⟩, 
            ⟨some 9, .call 12 [.t 6, .t 8], none⟩, 
            ⟨some 10, .move (.t 9), none⟩, 
            ⟨some 11, .fieldA 1 (.t 2), some (10, true)⟩, 
            ⟨some 12, .load true 7 (.t 11), some (10, true)⟩, 
            ⟨some 13, .fieldA 1 (.t 3), some (10, true)⟩, 
            ⟨some 14, .load true 7 (.t 13), some (10, true)⟩, 
            ⟨some 15, .call 89 [.t 12, .t 14], some (10, true)⟩, 
            ⟨some 16, .pick (.t 10) (.t 15) (.c (.bool false)), none⟩, 
            ⟨some 4, .move (.t 16), none⟩] false)
        (.ret)) }

/- sequitur/sequiturbase.Chain -/
def F99 : AF :=
  { ntmps := 17, results := [.tmp 4], pure := true, body :=
    .seq
      (.ops [⟨some 2, .box 81 (.t 0), none⟩, 
          ⟨some 3, .box 81 (.t 1), none⟩, 
          ⟨some 4, .move (.c (.bool false)), none⟩] false)
      (.seq
        (.ops [⟨some 5, .fieldA 0 (.t 2), none⟩, 
            ⟨some 6, .load false 1 (.t 5), none⟩, 
            ⟨some 7, .fieldA 0 (.t 3), none⟩, 
            ⟨some 8, .load false 1 (.t 7), none⟩, 
            ⟨some 9, .call 12 [.t 6, .t 8], none⟩, 
            ⟨some 10, .move (.t 9), none⟩, 
            ⟨some 11, .fieldA 1 (.t 2), some (10, true)⟩, 
            ⟨some 12, .load false 1 (.t 11), some (10, true)⟩, 
            ⟨some 13, .fieldA 1 (.t 3), some (10, true)⟩, 
            ⟨some 14, .load false 1 (.t 13), some (10, true)⟩, 
            ⟨some 15, .call 12 [.t 12, .t 14], some (10, true)⟩, 
            ⟨some 16, .pick (.t 10) (.t 15) (.c (.bool false)), none⟩, 
            ⟨some 4, .move (.t 16), none⟩] false)
        (.ret)) }

/- sequitur/sequiturbase.Int64s -/
def L100_0 : AC :=
  .seq
    (.seq
      (.ops [⟨some 11, .move (.t 5), none⟩, 
          ⟨some 12, .move (.t 0), none⟩, 
          ⟨some 13, .len (.t 12), none⟩, 
          ⟨some 14, .bin .lss (.t 11) (.t 13), none⟩] false)
      (.cond (.t 14)
        (.skip)
        (.exit 0)))
    (.seq
      (.block 1
        (.seq
          (.ops [⟨some 17, .move (.t 0), none⟩, 
              ⟨some 18, .move (.t 5), none⟩, 
              ⟨some 19, .idxA 1 (.t 17) (.t 18), none⟩, 
              ⟨some 20, .load false 1 (.t 19), none⟩, 
              ⟨some 21, .move (.t 1), none⟩, 
              ⟨some 22, .move (.t 5), none⟩, 
              ⟨some 23, .idxA 1 (.t 21) (.t 22), none⟩, 
              ⟨some 24, .load false 1 (.t 23), none⟩, 
              ⟨some 25, .bin .neq (.t 20) (.t 24), none⟩] true)
          (.cond (.t 25)
            (.seq
              (.ops [⟨some 4, .move (.c (.bool false)), none⟩] false)
              (.ret))
            (.skip))))
      (.ops [⟨some 15, .move (.t 5), none⟩, 
          ⟨some 16, .bin .add (.t 15) (.c (.int .i64 1)), none⟩, 
          ⟨some 5, .move (.t 16), none⟩] false))
def F100 : AF :=
  { ntmps := 26, results := [.tmp 4], pure := true, body :=
    .seq
      (.ops [⟨some 4, .move (.c (.bool false)), none⟩] false)
      (.seq
        (.seq
          (.ops [⟨some 6, .move (.t 0), none⟩, 
              ⟨some 7, .len (.t 6), none⟩, 
              ⟨some 8, .move (.t 1), none⟩, 
              ⟨some 9, .len (.t 8), none⟩, 
              ⟨some 10, .bin .neq (.t 7) (.t 9), none⟩] false)
          (.cond (.t 10)
            (.seq
              (.ops [⟨some 4, .move (.c (.bool false)), none⟩] false)
              (.ret))
            (.skip)))
        (.seq
          (.seq
            (.ops [⟨some 5, .move (.c (.int .i64 0)), none⟩] false)
            (.block 0
              (.loop L100_0)))
          (.seq
            (.ops [⟨some 4, .move (.c (.bool true)), none⟩] false)
            (.ret)))) }

/- sequitur/sequiturbase.Lin -/
def F101 : AF :=
  { ntmps := 17, results := [.tmp 4], pure := true, body :=
    .seq
      (.ops [⟨some 2, .box 34 (.t 0), none⟩, 
          ⟨some 3, .box 34 (.t 1), none⟩, 
          ⟨some 4, .move (.c (.bool false)), none⟩] false)
      (.seq
        (.ops [⟨some 5, .fieldA 0 (.t 2), none⟩, 
            ⟨some 6, .load false 1 (.t 5), none⟩, 
            ⟨some 7, .fieldA 0 (.t 3), none⟩, 
            ⟨some 8, .load false 1 (.t 7), none⟩, 
            ⟨some 9, .bin .eql (.t 6) (.t 8), none⟩, 
            ⟨some 10, .move (.t 9), none⟩, 
            ⟨some 11, .fieldA 1 (.t 2), some (10, true)⟩, 
            ⟨some 12, .load false 1 (.t 11), some (10, true)⟩, 
            ⟨some 13, .fieldA 1 (.t 3), some (10, true)⟩, 
            ⟨some 14, .load false 1 (.t 13), some (10, true)⟩, 
            ⟨some 15, .call 106 [.t 12, .t 14], some (10, true)⟩, 
            ⟨some 16, .pick (.t 10) (.t 15) (.c (.bool false)), none⟩, 
            ⟨some 4, .move (.t 16), none⟩] false)
        (.ret)) }

/- sequitur/sequiturbase.Cuts -/
def L102_0 : AC :=
  .seq
    (.seq
      (.ops [⟨some 11, .move (.t 5), none⟩, 
          ⟨some 12, .move (.t 0), none⟩, 
          ⟨some 13, .len (.t 12), none⟩, 
          ⟨some 14, .bin .lss (.t 11) (.t 13), none⟩] false)
      (.cond (.t 14)
        (.skip)
        (.exit 0)))
    (.seq
      (.block 1
        (.seq
          (.ops [⟨some 17, .move (.t 0), none⟩, 
              ⟨some 18, .move (.t 5), none⟩, 
              ⟨some 19, .idxA 7 (.t 17) (.t 18), none⟩, 
              ⟨some 20, .load true 7 (.t 19), none⟩, 
              ⟨some 21, .move (.t 1), none⟩, 
              ⟨some 22, .move (.t 5), none⟩, 
              ⟨some 23, .idxA 7 (.t 21) (.t 22), none⟩, 
              ⟨some 24, .load true 7 (.t 23), none⟩, 
              ⟨some 25, .call 89 [.t 20, .t 24], none⟩, 
              ⟨some 26, .not (.t 25), none⟩] true)
          (.cond (.t 26)
            (.seq
              (.ops [⟨some 4, .move (.c (.bool false)), none⟩] false)
              (.ret))
            (.skip))))
      (.ops [⟨some 15, .move (.t 5), none⟩, 
          ⟨some 16, .bin .add (.t 15) (.c (.int .i64 1)), none⟩, 
          ⟨some 5, .move (.t 16), none⟩] false))
def F102 : AF :=
  { ntmps := 27, results := [.tmp 4], pure := true, body :=
    .seq
      (.ops [⟨some 4, .move (.c (.bool false)), none⟩] false)
      (.seq
        (.seq
          (.ops [⟨some 6, .move (.t 0), none⟩, 
              ⟨some 7, .len (.t 6), none⟩, 
              ⟨some 8, .move (.t 1), none⟩, 
              ⟨some 9, .len (.t 8), none⟩, 
              ⟨some 10, .bin .neq (.t 7) (.t 9), none⟩] false)
          (.cond (.t 10)
            (.seq
              (.ops [⟨some 4, .move (.c (.bool false)), none⟩] false)
              (.ret))
            (.skip)))
        (.seq
          (.seq
            (.ops [⟨some 5, .move (.c (.int .i64 0)), none⟩] false)
            (.block 0
              (.loop L102_0)))
          (.seq
            (.ops [⟨some 4, .move (.c (.bool true)), none⟩] false)
            (.ret)))) }

/- cmp.isNaN[int] -/
def F103 : AF :=
  { ntmps := 6, results := [.tmp 2], pure := true, body :=
    .seq
      (.ops [⟨some 2, .move (.c (.bool false)), none⟩] false)
      (.seq
        (.ops [⟨some 3, .move (.t 0), none⟩, 
            ⟨some 4, .move (.t 0), none⟩, 
            ⟨some 5, .bin .neq (.t 3) (.t 4), none⟩, 
            ⟨some 2, .move (.t 5), none⟩] false)
        (.ret)) }

/- cmp.isNaN[int64] -/
def F104 : AF :=
  { ntmps := 6, results := [.tmp 2], pure := true, body :=
    .seq
      (.ops [⟨some 2, .move (.c (.bool false)), none⟩] false)
      (.seq
        (.ops [⟨some 3, .move (.t 0), none⟩, 
            ⟨some 4, .move (.t 0), none⟩, 
            ⟨some 5, .bin .neq (.t 3) (.t 4), none⟩, 
            ⟨some 2, .move (.t 5), none⟩] false)
        (.ret)) }

/- cmp.isNaN[string] -/
def F105 : AF :=
  { ntmps := 6, results := [.tmp 2], pure := true, body :=
    .seq
      (.ops [⟨some 2, .move (.c (.bool false)), none⟩] false)
      (.seq
        (.ops [⟨some 3, .move (.t 0), none⟩, 
            ⟨some 4, .move (.t 0), none⟩, 
            ⟨some 5, .bin .neq (.t 3) (.t 4), none⟩, 
            ⟨some 2, .move (.t 5), none⟩] false)
        (.ret)) }

/- sequitur/sequiturbase.Monos -/
def L106_0 : AC :=
  .seq
    (.seq
      (.ops [⟨some 11, .move (.t 5), none⟩, 
          ⟨some 12, .move (.t 0), none⟩, 
          ⟨some 13, .len (.t 12), none⟩, 
          ⟨some 14, .bin .lss (.t 11) (.t 13), none⟩] false)
      (.cond (.t 14)
        (.skip)
        (.exit 0)))
    (.seq
      (.block 1
        (.seq
          (.ops [⟨some 17, .move (.t 0), none⟩, 
              ⟨some 18, .move (.t 5), none⟩, 
              ⟨some 19, .idxA 2 (.t 17) (.t 18), none⟩, 
              ⟨some 20, .load true 2 (.t 19), none⟩, 
              ⟨some 21, .move (.t 1), none⟩, 
              ⟨some 22, .move (.t 5), none⟩, 
              ⟨some 23, .idxA 2 (.t 21) (.t 22), none⟩, 
              ⟨some 24, .load true 2 (.t 23), none⟩, 
              ⟨some 25, .aeq [2, 2] true (.t 20) (.t 24), none⟩] true)
          (.cond (.t 25)
            (.seq
              (.ops [⟨some 4, .move (.c (.bool false)), none⟩] false)
              (.ret))
            (.skip))))
      (.ops [⟨some 15, .move (.t 5), none⟩, 
          ⟨some 16, .bin .add (.t 15) (.c (.int .i64 1)), none⟩, 
          ⟨some 5, .move (.t 16), none⟩] false))
def F106 : AF :=
  { ntmps := 26, results := [.tmp 4], pure := true, body :=
    .seq
      (.ops [⟨some 4, .move (.c (.bool false)), none⟩] false)
      (.seq
        (.seq
          (.ops [⟨some 6, .move (.t 0), none⟩, 
              ⟨some 7, .len (.t 6), none⟩, 
              ⟨some 8, .move (.t 1), none⟩, 
              ⟨some 9, .len (.t 8), none⟩, 
              ⟨some 10, .bin .neq (.t 7) (.t 9), none⟩] false)
          (.cond (.t 10)
            (.seq
              (.ops [⟨some 4, .move (.c (.bool false)), none⟩] false)
              (.ret))
            (.skip)))
        (.seq
          (.seq
            (.ops [⟨some 5, .move (.c (.int .i64 0)), none⟩] false)
            (.block 0
              (.loop L106_0)))
          (.seq
            (.ops [⟨some 4, .move (.c (.bool true)), none⟩] false)
            (.ret)))) }

/- sequitur/proof.Copy!i -/
def F1000018 : AF :=
  { ntmps := 30, results := [.cell 2 true 24], pure := false, body :=
    .seq
      (.ops [⟨some 1, .box 42 (.t 0), none⟩, 
          ⟨some 2, .alloc 42 [.int .i64 0, .str ⟨#[]⟩, .str ⟨#[]⟩, .str ⟨#[]⟩, .bool false, .int .i64 0, .str ⟨#[]⟩, .int .i64 0, .fsl 4 [], .int .i64 0, .str ⟨#[]⟩, .str ⟨#[]⟩, .fsl 4 [], .fsl 5 [], .fsl 8 [], .fsl 2 [], .int .i64 0, .fsl 1 [], .fsl 1 [], .int .i64 0, .int .i64 0, .fsl 2 [], .fsl 7 [], .fsl 24 []], none⟩] false)
      (.seq
        (.ops [⟨some 3, .fieldA 5 (.t 1), none⟩, 
            ⟨some 4, .load true 4 (.t 3), none⟩, 
            ⟨some 5, .call 42 [.t 4], none⟩, 
            ⟨some 6, .fieldA 9 (.t 1), none⟩, 
            ⟨some 7, .load true 5 (.t 6), none⟩, 
            ⟨some 8, .call 43 [.t 7], none⟩, 
            ⟨some 9, .fieldA 5 (.t 1), none⟩, 
            ⟨none, .store 4 (.t 9) (.t 5), none⟩, 
            ⟨some 10, .fieldA 9 (.t 1), none⟩, 
            ⟨none, .store 5 (.t 10) (.t 8), none⟩] true)
        (.seq
          (.ops [⟨some 11, .fieldA 14 (.t 1), none⟩, 
              ⟨some 12, .fieldA 0 (.t 11), none⟩, 
              ⟨some 13, .load false 1 (.t 12), none⟩, 
              ⟨some 14, .call 44 [.t 13, .f 45], none⟩, 
              ⟨some 15, .fieldA 14 (.t 1), none⟩, 
              ⟨some 16, .fieldA 1 (.t 15), none⟩, 
              ⟨some 17, .load false 1 (.t 16), none⟩, 
              ⟨some 18, .call 47 [.t 17, .f 48], none⟩, 
              ⟨some 19, .fieldA 14 (.t 1), none⟩, 
              ⟨some 20, .fieldA 2 (.t 19), none⟩, 
              ⟨some 21, .load true 7 (.t 20), none⟩, 
              ⟨some 22, .call 46 [.t 21], none⟩, 
              ⟨some 23, .build [.fsl 8 [], .fsl 2 [], .int .i64 0, .fsl 1 [], .fsl 1 [], .int .i64 0, .int .i64 0, .fsl 2 [], .fsl 7 []] [(0, 1, .t 14), (1, 1, .t 18), (2, 7, .t 22)], none⟩, 
              ⟨some 24, .fieldA 14 (.t 1), none⟩, 
              ⟨none, .store 9 (.t 24) (.t 23), none⟩] true)
          (.seq
            (.ops [⟨some 25, .fieldA 23 (.t 1), none⟩, 
                ⟨some 26, .load false 1 (.t 25), none⟩, 
                ⟨some 27, .call 1000049 [.t 26, .f 1000018], none⟩, 
                ⟨some 28, .fieldA 23 (.t 1), none⟩, 
                ⟨none, .store 1 (.t 28) (.t 27), none⟩] false)
            (.seq
              (.ops [⟨some 29, .load true 24 (.t 1), none⟩, 
                  ⟨none, .store 24 (.t 2) (.t 29), none⟩] false)
              (.ret))))) }

/- sequitur/proof.walk!i -/
def L1000030_0 : AC :=
  .seq
    (.ops [⟨some 18, .bin .lss (.t 17) (.t 16), none⟩] false)
    (.seq
      (.cond (.t 18)
        (.skip)
        (.exit 0))
      (.seq
        (.block 1
          (.seq
            (.ops [⟨some 19, .move (.t 17), none⟩, 
                ⟨some 20, .idxA 24 (.t 15) (.t 17), none⟩, 
                ⟨some 21, .load true 24 (.t 20), none⟩, 
                ⟨some 8, .alloc 42 [.int .i64 0, .str ⟨#[]⟩, .str ⟨#[]⟩, .str ⟨#[]⟩, .bool false, .int .i64 0, .str ⟨#[]⟩, .int .i64 0, .fsl 4 [], .int .i64 0, .str ⟨#[]⟩, .str ⟨#[]⟩, .fsl 4 [], .fsl 5 [], .fsl 8 [], .fsl 2 [], .int .i64 0, .fsl 1 [], .fsl 1 [], .int .i64 0, .int .i64 0, .fsl 2 [], .fsl 7 [], .fsl 24 []], none⟩, 
                ⟨some 7, .move (.t 19), none⟩, 
                ⟨none, .store 24 (.t 8) (.t 21), none⟩] false)
            (.seq
              (.opsV [⟨some 22, .load true 24 (.t 8), none⟩, 
                  ⟨some 23, .move (.t 1), none⟩, 
                  ⟨some 24, .move (.t 1), none⟩, 
                  ⟨some 25, .len (.t 24), none⟩, 
                  ⟨some 26, .move (.t 1), none⟩, 
                  ⟨some 27, .len (.t 26), none⟩, 
                  ⟨some 28, .slice 1 (.t 23) none (some (.t 25)) (some (.t 27)), none⟩, 
                  ⟨some 29, .move (.t 7), none⟩, 
                  ⟨some 30, .buildSl 1 [.int .i64 0] 1 [(0, .t 29)], none⟩, 
                  ⟨some 31, .append 3 1 8 (.t 28) (.t 30), none⟩, 
                  ⟨some 32, .move (.t 2), none⟩, 
                  ⟨some 33, .call 1000030 [.t 22, .t 31, .t 32], none⟩, 
                  ⟨some 34, .not (.t 33), none⟩])
              (.cond (.t 34)
                (.seq
                  (.ops [⟨some 6, .move (.c (.bool false)), none⟩] false)
                  (.ret))
                (.skip)))))
        (.ops [⟨some 35, .bin .add (.t 17) (.c (.int .i64 1)), none⟩, 
            ⟨some 17, .move (.t 35), none⟩] false)))
def F1000030 : AF :=
  { ntmps := 36, results := [.tmp 6], pure := false, body :=
    .seq
      (.ops [⟨some 3, .box 42 (.t 0), none⟩, 
          ⟨some 6, .move (.c (.bool false)), none⟩] false)
      (.seq
        (.seq
          (.ops [⟨some 9, .move (.t 2), none⟩, 
              ⟨some 10, .load true 24 (.t 3), none⟩, 
              ⟨some 11, .move (.t 1), none⟩, 
              ⟨some 12, .callv (.t 9) [.t 10, .t 11], none⟩, 
              ⟨some 13, .not (.t 12), none⟩] false)
          (.cond (.t 13)
            (.seq
              (.ops [⟨some 6, .move (.c (.bool false)), none⟩] false)
              (.ret))
            (.skip)))
        (.seq
          (.seq
            (.ops [⟨some 14, .fieldA 23 (.t 3), none⟩, 
                ⟨some 15, .load false 1 (.t 14), none⟩, 
                ⟨some 16, .len (.t 15), none⟩, 
                ⟨some 17, .move (.c (.int .i64 0)), none⟩] false)
            (.block 0
              (.loop L1000030_0)))
          (.seq
            (.ops [⟨some 6, .move (.c (.bool true)), none⟩] false)
            (.ret)))) }

/- sequitur/proof.each[sequitur/api.Proof]!i -/
def L1000049_0 : AC :=
  .seq
    (.ops [⟨some 11, .bin .lss (.t 10) (.t 9), none⟩] false)
    (.seq
      (.cond (.t 11)
        (.skip)
        (.exit 0))
      (.seq
        (.block 1
          (.seq
            (.ops [⟨some 12, .idxA 24 (.t 8) (.t 10), none⟩, 
                ⟨some 13, .load true 24 (.t 12), none⟩, 
                ⟨some 7, .alloc 42 [.int .i64 0, .str ⟨#[]⟩, .str ⟨#[]⟩, .str ⟨#[]⟩, .bool false, .int .i64 0, .str ⟨#[]⟩, .int .i64 0, .fsl 4 [], .int .i64 0, .str ⟨#[]⟩, .str ⟨#[]⟩, .fsl 4 [], .fsl 5 [], .fsl 8 [], .fsl 2 [], .int .i64 0, .fsl 1 [], .fsl 1 [], .int .i64 0, .int .i64 0, .fsl 2 [], .fsl 7 [], .fsl 24 []], none⟩, 
                ⟨none, .store 24 (.t 7) (.t 13), none⟩] false)
            (.ops [⟨some 14, .move (.t 5), none⟩, 
                ⟨some 15, .move (.t 1), none⟩, 
                ⟨some 16, .load true 24 (.t 7), none⟩, 
                ⟨some 17, .callv (.t 15) [.t 16], none⟩, 
                ⟨some 18, .buildSl 24 [.int .i64 0, .str ⟨#[]⟩, .str ⟨#[]⟩, .str ⟨#[]⟩, .bool false, .int .i64 0, .str ⟨#[]⟩, .int .i64 0, .fsl 4 [], .int .i64 0, .str ⟨#[]⟩, .str ⟨#[]⟩, .fsl 4 [], .fsl 5 [], .fsl 8 [], .fsl 2 [], .int .i64 0, .fsl 1 [], .fsl 1 [], .int .i64 0, .int .i64 0, .fsl 2 [], .fsl 7 [], .fsl 24 []] 1 [(0, .t 17)], none⟩, 
                ⟨some 19, .append 42 24 400 (.t 14) (.t 18), none⟩, 
                ⟨some 5, .move (.t 19), none⟩] false)))
        (.ops [⟨some 20, .bin .add (.t 10) (.c (.int .i64 1)), none⟩, 
            ⟨some 10, .move (.t 20), none⟩] false)))
def F1000049 : AF :=
  { ntmps := 22, results := [.tmp 4], pure := false, body :=
    .seq
      (.ops [⟨some 4, .move (.c (.fsl 24 [])), none⟩] false)
      (.seq
        (.ops [⟨some 5, .move (.c (.fsl 24 [])), none⟩] false)
        (.seq
          (.seq
            (.ops [⟨some 8, .move (.t 0), none⟩, 
                ⟨some 9, .len (.t 8), none⟩, 
                ⟨some 10, .move (.c (.int .i64 0)), none⟩] false)
            (.block 0
              (.loop L1000049_0)))
          (.seq
            (.ops [⟨some 21, .move (.t 5), none⟩, 
                ⟨some 4, .move (.t 21), none⟩] false)
            (.ret)))) }

def T : Tab
  | 5 => some F5
  | 6 => some F6
  | 7 => some F7
  | 8 => some F8
  | 9 => some F9
  | 10 => some F10
  | 12 => some F12
  | 13 => some F13
  | 15 => some F15
  | 18 => some F18
  | 19 => some F19
  | 20 => some F20
  | 22 => some F22
  | 23 => some F23
  | 24 => some F24
  | 25 => some F25
  | 26 => some F26
  | 27 => some F27
  | 28 => some F28
  | 29 => some F29
  | 31 => some F31
  | 32 => some F32
  | 35 => some F35
  | 37 => some F37
  | 42 => some F42
  | 43 => some F43
  | 44 => some F44
  | 45 => some F45
  | 46 => some F46
  | 47 => some F47
  | 48 => some F48
  | 49 => some F49
  | 50 => some F50
  | 51 => some F51
  | 52 => some F52
  | 53 => some F53
  | 54 => some F54
  | 55 => some F55
  | 56 => some F56
  | 57 => some F57
  | 58 => some F58
  | 60 => some F60
  | 61 => some F61
  | 62 => some F62
  | 63 => some F63
  | 64 => some F64
  | 65 => some F65
  | 66 => some F66
  | 67 => some F67
  | 68 => some F68
  | 74 => some F74
  | 77 => some F77
  | 78 => some F78
  | 79 => some F79
  | 80 => some F80
  | 81 => some F81
  | 82 => some F82
  | 83 => some F83
  | 84 => some F84
  | 85 => some F85
  | 86 => some F86
  | 87 => some F87
  | 88 => some F88
  | 89 => some F89
  | 90 => some F90
  | 92 => some F92
  | 93 => some F93
  | 94 => some F94
  | 95 => some F95
  | 96 => some F96
  | 97 => some F97
  | 98 => some F98
  | 99 => some F99
  | 100 => some F100
  | 101 => some F101
  | 102 => some F102
  | 103 => some F103
  | 104 => some F104
  | 105 => some F105
  | 106 => some F106
  | 1000018 => some F1000018
  | 1000030 => some F1000030
  | 1000049 => some F1000049
  | _ => none

end Go.Proofs.YtkecobdhgabknaaDoor.A
