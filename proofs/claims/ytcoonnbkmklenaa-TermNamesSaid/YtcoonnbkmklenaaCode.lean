/- The functions that the seat reaches, in the interpreter's own code (by gen.py from the loaded program; checked against it in the text behind). -/
import Derived.Test.YtcoonnbkmklenaaAbs
namespace Go.Proofs.Ytcoonnbkmklenaa.A
open Go

/- sequitur/sequiturlaw07.TermCompares -/
def F3 : AF :=
  { ntmps := 33, results := [.tmp 4], pure := true, body :=
    .seq
      (.ops [⟨some 2, .box 24 (.t 0), none⟩, 
          ⟨some 3, .box 24 (.t 1), none⟩, 
          ⟨some 4, .move (.c (.bool false)), none⟩] false)
      (.seq
        (.seq
          (.ops [⟨some 5, .load true 4 (.t 2), none⟩, 
              ⟨some 6, .call 10 [.t 5, .c (.int .i64 2000)], none⟩, 
              ⟨some 7, .bin .gtr (.t 6) (.c (.int .i64 2000)), none⟩, 
              ⟨some 8, .move (.t 7), none⟩, 
              ⟨some 9, .load true 4 (.t 3), some (8, false)⟩, 
              ⟨some 10, .call 10 [.t 9, .c (.int .i64 2000)], some (8, false)⟩, 
              ⟨some 11, .bin .gtr (.t 10) (.c (.int .i64 2000)), some (8, false)⟩, 
              ⟨some 12, .pick (.t 8) (.c (.bool true)) (.t 11), none⟩] false)
          (.cond (.t 12)
            (.seq
              (.ops [⟨some 13, .call 11 [], none⟩, 
                  ⟨some 4, .move (.t 13), none⟩] false)
              (.ret))
            (.skip)))
        (.seq
          (.ops [⟨some 14, .load true 4 (.t 2), none⟩, 
              ⟨some 15, .load true 4 (.t 3), none⟩, 
              ⟨some 16, .call 12 [.t 14, .t 15], none⟩, 
              ⟨some 17, .load true 4 (.t 2), none⟩, 
              ⟨some 18, .load true 4 (.t 3), none⟩, 
              ⟨some 19, .call 13 [.t 17, .t 18], none⟩, 
              ⟨some 20, .bin .eql (.t 16) (.t 19), none⟩, 
              ⟨some 21, .move (.t 20), none⟩, 
              ⟨some 22, .load true 4 (.t 2), some (21, true)⟩, 
              ⟨some 23, .load true 4 (.t 3), some (21, true)⟩, 
              ⟨some 24, .call 14 [.t 22, .t 23], some (21, true)⟩, 
              ⟨some 25, .load true 4 (.t 2), some (21, true)⟩, 
              ⟨some 26, .load true 4 (.t 3), some (21, true)⟩, 
              ⟨some 27, .call 15 [.t 25, .t 26], some (21, true)⟩, 
              ⟨some 28, .beq false (.t 24) (.t 27), some (21, true)⟩, 
              ⟨some 29, .pick (.t 21) (.t 28) (.c (.bool false)), none⟩, 
              ⟨some 30, .move (.t 29), none⟩, 
              ⟨some 31, .call 11 [], some (30, true)⟩, 
              ⟨some 32, .pick (.t 30) (.t 31) (.c (.bool false)), none⟩, 
              ⟨some 4, .move (.t 32), none⟩] true)
          (.ret))) }

/- sequitur/sequiturlaw07.TermOrders -/
def F4 : AF :=
  { ntmps := 78, results := [.tmp 6], pure := true, body :=
    .seq
      (.ops [⟨some 3, .box 24 (.t 0), none⟩, 
          ⟨some 4, .box 24 (.t 1), none⟩, 
          ⟨some 5, .box 24 (.t 2), none⟩, 
          ⟨some 6, .move (.c (.bool false)), none⟩] false)
      (.seq
        (.seq
          (.ops [⟨some 10, .load true 4 (.t 3), none⟩, 
              ⟨some 11, .load true 4 (.t 4), none⟩, 
              ⟨some 12, .load true 4 (.t 5), none⟩, 
              ⟨some 13, .buildSl 4 [.int .i64 0, .str ⟨#[]⟩, .int .i64 0, .fsl 4 []] 3 [(0, .t 10), (1, .t 11), (2, .t 12)], none⟩, 
              ⟨some 14, .call 16 [.t 13], none⟩, 
              ⟨some 15, .not (.t 14), none⟩] false)
          (.cond (.t 15)
            (.seq
              (.ops [⟨some 16, .call 11 [], none⟩, 
                  ⟨some 6, .move (.t 16), none⟩] false)
              (.ret))
            (.skip)))
        (.seq
          (.ops [⟨some 17, .load true 4 (.t 3), none⟩, 
              ⟨some 18, .load true 4 (.t 4), none⟩, 
              ⟨some 19, .call 12 [.t 17, .t 18], none⟩, 
              ⟨some 20, .load true 4 (.t 4), none⟩, 
              ⟨some 21, .load true 4 (.t 5), none⟩, 
              ⟨some 22, .call 12 [.t 20, .t 21], none⟩, 
              ⟨some 23, .load true 4 (.t 3), none⟩, 
              ⟨some 24, .load true 4 (.t 5), none⟩, 
              ⟨some 25, .call 12 [.t 23, .t 24], none⟩, 
              ⟨some 7, .move (.t 19), none⟩, 
              ⟨some 8, .move (.t 22), none⟩, 
              ⟨some 9, .move (.t 25), none⟩] true)
          (.seq
            (.seq
              (.ops [⟨some 26, .move (.t 7), none⟩, 
                  ⟨some 27, .load true 4 (.t 4), none⟩, 
                  ⟨some 28, .load true 4 (.t 3), none⟩, 
                  ⟨some 29, .call 12 [.t 27, .t 28], none⟩, 
                  ⟨some 30, .neg (.t 29), none⟩, 
                  ⟨some 31, .bin .neq (.t 26) (.t 30), none⟩, 
                  ⟨some 32, .move (.t 31), none⟩, 
                  ⟨some 33, .move (.t 7), some (32, false)⟩, 
                  ⟨some 34, .bin .eql (.t 33) (.c (.int .i64 0)), some (32, false)⟩, 
                  ⟨some 35, .load true 4 (.t 3), some (32, false)⟩, 
                  ⟨some 36, .load true 4 (.t 4), some (32, false)⟩, 
                  ⟨some 37, .call 14 [.t 35, .t 36], some (32, false)⟩, 
                  ⟨some 38, .beq true (.t 34) (.t 37), some (32, false)⟩, 
                  ⟨some 39, .pick (.t 32) (.c (.bool true)) (.t 38), none⟩, 
                  ⟨some 40, .move (.t 39), none⟩, 
                  ⟨some 41, .load true 4 (.t 3), some (40, false)⟩, 
                  ⟨some 42, .load true 4 (.t 3), some (40, false)⟩, 
                  ⟨some 43, .call 12 [.t 41, .t 42], some (40, false)⟩, 
                  ⟨some 44, .bin .neq (.t 43) (.c (.int .i64 0)), some (40, false)⟩, 
                  ⟨some 45, .pick (.t 40) (.c (.bool true)) (.t 44), none⟩, 
                  ⟨some 46, .move (.t 45), none⟩, 
                  ⟨some 47, .move (.t 7), some (46, false)⟩, 
                  ⟨some 48, .bin .lss (.t 47) (.c (.int .i64 (-1))), some (46, false)⟩, 
                  ⟨some 49, .pick (.t 46) (.c (.bool true)) (.t 48), none⟩, 
                  ⟨some 50, .move (.t 49), none⟩, 
                  ⟨some 51, .move (.t 7), some (50, false)⟩, 
                  ⟨some 52, .bin .gtr (.t 51) (.c (.int .i64 1)), some (50, false)⟩, 
                  ⟨some 53, .pick (.t 50) (.c (.bool true)) (.t 52), none⟩] false)
              (.cond (.t 53)
                (.seq
                  (.ops [⟨some 6, .move (.c (.bool false)), none⟩] false)
                  (.ret))
                (.skip)))
            (.seq
              (.ops [⟨some 54, .move (.t 7), none⟩, 
                  ⟨some 55, .bin .gtr (.t 54) (.c (.int .i64 0)), none⟩, 
                  ⟨some 56, .move (.t 55), none⟩, 
                  ⟨some 57, .move (.t 8), some (56, false)⟩, 
                  ⟨some 58, .bin .gtr (.t 57) (.c (.int .i64 0)), some (56, false)⟩, 
                  ⟨some 59, .pick (.t 56) (.c (.bool true)) (.t 58), none⟩, 
                  ⟨some 60, .move (.t 59), none⟩, 
                  ⟨some 61, .move (.t 9), some (60, false)⟩, 
                  ⟨some 62, .bin .leq (.t 61) (.c (.int .i64 0)), some (60, false)⟩, 
                  ⟨some 63, .move (.t 62), some (60, false)⟩, 
                  ⟨some 64, .move (.t 7), some (63, true)⟩, 
                  ⟨some 65, .bin .eql (.t 64) (.c (.int .i64 0)), some (63, true)⟩, 
                  ⟨some 66, .move (.t 65), some (63, true)⟩, 
                  ⟨some 67, .move (.t 8), some (66, true)⟩, 
                  ⟨some 68, .bin .eql (.t 67) (.c (.int .i64 0)), some (66, true)⟩, 
                  ⟨some 69, .pick (.t 66) (.t 68) (.c (.bool false)), some (63, true)⟩, 
                  ⟨some 70, .move (.t 9), some (63, true)⟩, 
                  ⟨some 71, .bin .eql (.t 70) (.c (.int .i64 0)), some (63, true)⟩, 
                  ⟨some 72, .beq false (.t 69) (.t 71), some (63, true)⟩, 
                  ⟨some 73, .pick (.t 63) (.t 72) (.c (.bool false)), some (60, false)⟩, 
                  ⟨some 74, .pick (.t 60) (.c (.bool true)) (.t 73), none⟩, 
                  ⟨some 75, .move (.t 74), none⟩, 
                  ⟨some 76, .call 11 [], some (75, true)⟩, 
                  ⟨some 77, .pick (.t 75) (.t 76) (.c (.bool false)), none⟩, 
                  ⟨some 6, .move (.t 77), none⟩] false)
              (.ret))))) }

/- sequitur/sequiturlaw07.TermParts -/
def F5 : AF :=
  { ntmps := 30, results := [.tmp 4], pure := true, body :=
    .seq
      (.ops [⟨some 2, .box 24 (.t 0), none⟩, 
          ⟨some 3, .box 24 (.t 1), none⟩, 
          ⟨some 4, .move (.c (.bool false)), none⟩] false)
      (.seq
        (.seq
          (.ops [⟨some 6, .load true 4 (.t 2), none⟩, 
              ⟨some 7, .load true 4 (.t 3), none⟩, 
              ⟨some 8, .buildSl 4 [.int .i64 0, .str ⟨#[]⟩, .int .i64 0, .fsl 4 []] 2 [(0, .t 6), (1, .t 7)], none⟩, 
              ⟨some 9, .call 16 [.t 8], none⟩, 
              ⟨some 10, .not (.t 9), none⟩] false)
          (.cond (.t 10)
            (.seq
              (.ops [⟨some 11, .call 11 [], none⟩, 
                  ⟨some 4, .move (.t 11), none⟩] false)
              (.ret))
            (.skip)))
        (.seq
          (.ops [⟨some 12, .load true 4 (.t 2), none⟩, 
              ⟨some 13, .call 17 [.t 12], none⟩, 
              ⟨some 5, .move (.t 13), none⟩] false)
          (.seq
            (.ops [⟨some 14, .load true 4 (.t 2), none⟩, 
                ⟨some 15, .call 19 [.t 14], none⟩, 
                ⟨some 16, .move (.t 5), none⟩, 
                ⟨some 17, .call 18 [.t 15, .t 16], none⟩, 
                ⟨some 18, .move (.t 17), none⟩, 
                ⟨some 19, .load true 4 (.t 2), some (18, true)⟩, 
                ⟨some 20, .load true 4 (.t 3), some (18, true)⟩, 
                ⟨some 21, .call 20 [.t 19, .t 20], some (18, true)⟩, 
                ⟨some 22, .move (.t 5), some (18, true)⟩, 
                ⟨some 23, .load true 4 (.t 3), some (18, true)⟩, 
                ⟨some 24, .call 21 [.t 22, .t 23], some (18, true)⟩, 
                ⟨some 25, .beq false (.t 21) (.t 24), some (18, true)⟩, 
                ⟨some 26, .pick (.t 18) (.t 25) (.c (.bool false)), none⟩, 
                ⟨some 27, .move (.t 26), none⟩, 
                ⟨some 28, .call 11 [], some (27, true)⟩, 
                ⟨some 29, .pick (.t 27) (.t 28) (.c (.bool false)), none⟩, 
                ⟨some 4, .move (.t 29), none⟩] true)
            (.ret)))) }

/- sequitur/sequiturlaw07.TermCopies -/
def F6 : AF :=
  { ntmps := 26, results := [.tmp 2], pure := true, body :=
    .seq
      (.ops [⟨some 1, .box 24 (.t 0), none⟩, 
          ⟨some 2, .move (.c (.bool false)), none⟩] false)
      (.seq
        (.seq
          (.ops [⟨some 5, .load true 4 (.t 1), none⟩, 
              ⟨some 6, .buildSl 4 [.int .i64 0, .str ⟨#[]⟩, .int .i64 0, .fsl 4 []] 1 [(0, .t 5)], none⟩, 
              ⟨some 7, .call 16 [.t 6], none⟩, 
              ⟨some 8, .not (.t 7), none⟩] false)
          (.cond (.t 8)
            (.seq
              (.ops [⟨some 9, .call 11 [], none⟩, 
                  ⟨some 2, .move (.t 9), none⟩] false)
              (.ret))
            (.skip)))
        (.seq
          (.ops [⟨some 10, .load true 4 (.t 1), none⟩, 
              ⟨some 11, .call 22 [.t 10], none⟩, 
              ⟨some 3, .alloc 24 [.int .i64 0, .str ⟨#[]⟩, .int .i64 0, .fsl 4 []], none⟩, 
              ⟨none, .store 4 (.t 3) (.t 11), none⟩] false)
          (.seq
            (.ops [⟨some 12, .load true 4 (.t 1), none⟩, 
                ⟨some 13, .call 23 [.t 12], none⟩, 
                ⟨some 4, .alloc 24 [.int .i64 0, .str ⟨#[]⟩, .int .i64 0, .fsl 4 []], none⟩, 
                ⟨none, .store 4 (.t 4) (.t 13), none⟩] false)
            (.seq
              (.seq
                (.ops [⟨some 14, .load true 4 (.t 4), none⟩, 
                    ⟨some 15, .load true 4 (.t 3), none⟩, 
                    ⟨some 16, .call 15 [.t 14, .t 15], none⟩, 
                    ⟨some 17, .not (.t 16), none⟩] false)
                (.cond (.t 17)
                  (.seq
                    (.ops [⟨some 2, .move (.c (.bool false)), none⟩] false)
                    (.ret))
                  (.skip)))
              (.seq
                (.ops [⟨some 18, .load true 4 (.t 4), none⟩, 
                    ⟨some 19, .call 24 [.t 18], none⟩] false)
                (.seq
                  (.ops [⟨some 20, .load true 4 (.t 1), none⟩, 
                      ⟨some 21, .load true 4 (.t 3), none⟩, 
                      ⟨some 22, .call 15 [.t 20, .t 21], none⟩, 
                      ⟨some 23, .move (.t 22), none⟩, 
                      ⟨some 24, .call 11 [], some (23, true)⟩, 
                      ⟨some 25, .pick (.t 23) (.t 24) (.c (.bool false)), none⟩, 
                      ⟨some 2, .move (.t 25), none⟩] false)
                  (.ret))))))) }

/- sequitur/sequiturlaw07.TermReplaces -/
def F7 : AF :=
  { ntmps := 26, results := [.tmp 6], pure := true, body :=
    .seq
      (.ops [⟨some 3, .box 24 (.t 0), none⟩, 
          ⟨some 4, .box 24 (.t 1), none⟩, 
          ⟨some 5, .box 24 (.t 2), none⟩, 
          ⟨some 6, .move (.c (.bool false)), none⟩] false)
      (.seq
        (.seq
          (.ops [⟨some 7, .load true 4 (.t 3), none⟩, 
              ⟨some 8, .load true 4 (.t 4), none⟩, 
              ⟨some 9, .load true 4 (.t 5), none⟩, 
              ⟨some 10, .buildSl 4 [.int .i64 0, .str ⟨#[]⟩, .int .i64 0, .fsl 4 []] 3 [(0, .t 7), (1, .t 8), (2, .t 9)], none⟩, 
              ⟨some 11, .call 16 [.t 10], none⟩, 
              ⟨some 12, .not (.t 11), none⟩] false)
          (.cond (.t 12)
            (.seq
              (.ops [⟨some 13, .call 11 [], none⟩, 
                  ⟨some 6, .move (.t 13), none⟩] false)
              (.ret))
            (.skip)))
        (.seq
          (.ops [⟨some 14, .load true 4 (.t 3), none⟩, 
              ⟨some 15, .load true 4 (.t 4), none⟩, 
              ⟨some 16, .load true 4 (.t 5), none⟩, 
              ⟨some 17, .call 25 [.t 14, .t 15, .t 16], none⟩, 
              ⟨some 18, .load true 4 (.t 3), none⟩, 
              ⟨some 19, .load true 4 (.t 4), none⟩, 
              ⟨some 20, .load true 4 (.t 5), none⟩, 
              ⟨some 21, .call 26 [.t 18, .t 19, .t 20], none⟩, 
              ⟨some 22, .call 15 [.t 17, .t 21], none⟩, 
              ⟨some 23, .move (.t 22), none⟩, 
              ⟨some 24, .call 11 [], some (23, true)⟩, 
              ⟨some 25, .pick (.t 23) (.t 24) (.c (.bool false)), none⟩, 
              ⟨some 6, .move (.t 25), none⟩] true)
          (.ret))) }

/- sequitur/sequiturlaw07.TermGone -/
def F8 : AF :=
  { ntmps := 66, results := [.tmp 6], pure := true, body :=
    .seq
      (.ops [⟨some 3, .box 24 (.t 0), none⟩, 
          ⟨some 4, .box 24 (.t 1), none⟩, 
          ⟨some 5, .box 24 (.t 2), none⟩, 
          ⟨some 6, .move (.c (.bool false)), none⟩] false)
      (.seq
        (.seq
          (.ops [⟨some 9, .load true 4 (.t 3), none⟩, 
              ⟨some 10, .load true 4 (.t 4), none⟩, 
              ⟨some 11, .load true 4 (.t 5), none⟩, 
              ⟨some 12, .buildSl 4 [.int .i64 0, .str ⟨#[]⟩, .int .i64 0, .fsl 4 []] 3 [(0, .t 9), (1, .t 10), (2, .t 11)], none⟩, 
              ⟨some 13, .call 16 [.t 12], none⟩, 
              ⟨some 14, .not (.t 13), none⟩] false)
          (.cond (.t 14)
            (.seq
              (.ops [⟨some 15, .call 11 [], none⟩, 
                  ⟨some 6, .move (.t 15), none⟩] false)
              (.ret))
            (.skip)))
        (.seq
          (.seq
            (.ops [⟨some 16, .load true 4 (.t 3), none⟩, 
                ⟨some 17, .load true 4 (.t 4), none⟩, 
                ⟨some 18, .load true 4 (.t 4), none⟩, 
                ⟨some 19, .call 25 [.t 16, .t 17, .t 18], none⟩, 
                ⟨some 20, .load true 4 (.t 3), none⟩, 
                ⟨some 21, .call 14 [.t 19, .t 20], none⟩, 
                ⟨some 22, .not (.t 21), none⟩] true)
            (.cond (.t 22)
              (.seq
                (.ops [⟨some 6, .move (.c (.bool false)), none⟩] false)
                (.ret))
              (.skip)))
          (.seq
            (.ops [⟨some 23, .fieldA 3 (.t 4), none⟩, 
                ⟨some 24, .load false 1 (.t 23), none⟩, 
                ⟨some 25, .len (.t 24), none⟩, 
                ⟨some 26, .bin .eql (.t 25) (.c (.int .i64 0)), none⟩, 
                ⟨some 7, .move (.t 26), none⟩] false)
            (.seq
              (.ops [⟨some 27, .load true 4 (.t 3), none⟩, 
                  ⟨some 28, .load true 4 (.t 4), none⟩, 
                  ⟨some 29, .load true 4 (.t 5), none⟩, 
                  ⟨some 30, .call 25 [.t 27, .t 28, .t 29], none⟩, 
                  ⟨some 8, .alloc 24 [.int .i64 0, .str ⟨#[]⟩, .int .i64 0, .fsl 4 []], none⟩, 
                  ⟨none, .store 4 (.t 8) (.t 30), none⟩] false)
              (.seq
                (.seq
                  (.ops [⟨some 31, .move (.t 7), none⟩, 
                      ⟨some 32, .not (.t 31), none⟩, 
                      ⟨some 33, .move (.t 32), none⟩, 
                      ⟨some 34, .load true 4 (.t 5), some (33, false)⟩, 
                      ⟨some 35, .load true 4 (.t 4), some (33, false)⟩, 
                      ⟨some 36, .call 20 [.t 34, .t 35], some (33, false)⟩, 
                      ⟨some 37, .pick (.t 33) (.c (.bool true)) (.t 36), none⟩] false)
                  (.cond (.t 37)
                    (.seq
                      (.ops [⟨some 38, .load true 4 (.t 3), none⟩, 
                          ⟨some 39, .load true 4 (.t 4), none⟩, 
                          ⟨some 40, .call 20 [.t 38, .t 39], none⟩, 
                          ⟨some 41, .move (.t 40), none⟩, 
                          ⟨some 42, .load true 4 (.t 8), some (41, false)⟩, 
                          ⟨some 43, .load true 4 (.t 3), some (41, false)⟩, 
                          ⟨some 44, .call 14 [.t 42, .t 43], some (41, false)⟩, 
                          ⟨some 45, .pick (.t 41) (.c (.bool true)) (.t 44), none⟩, 
                          ⟨some 46, .move (.t 45), none⟩, 
                          ⟨some 47, .call 11 [], some (46, true)⟩, 
                          ⟨some 48, .pick (.t 46) (.t 47) (.c (.bool false)), none⟩, 
                          ⟨some 6, .move (.t 48), none⟩] false)
                      (.ret))
                    (.skip)))
                (.seq
                  (.ops [⟨some 49, .load true 4 (.t 8), none⟩, 
                      ⟨some 50, .load true 4 (.t 4), none⟩, 
                      ⟨some 51, .call 20 [.t 49, .t 50], none⟩, 
                      ⟨some 52, .not (.t 51), none⟩, 
                      ⟨some 53, .move (.t 52), none⟩, 
                      ⟨some 54, .load true 4 (.t 3), some (53, true)⟩, 
                      ⟨some 55, .load true 4 (.t 4), some (53, true)⟩, 
                      ⟨some 56, .call 20 [.t 54, .t 55], some (53, true)⟩, 
                      ⟨some 57, .move (.t 56), some (53, true)⟩, 
                      ⟨some 58, .load true 4 (.t 8), some (57, false)⟩, 
                      ⟨some 59, .load true 4 (.t 3), some (57, false)⟩, 
                      ⟨some 60, .call 14 [.t 58, .t 59], some (57, false)⟩, 
                      ⟨some 61, .pick (.t 57) (.c (.bool true)) (.t 60), some (53, true)⟩, 
                      ⟨some 62, .pick (.t 53) (.t 61) (.c (.bool false)), none⟩, 
                      ⟨some 63, .move (.t 62), none⟩, 
                      ⟨some 64, .call 11 [], some (63, true)⟩, 
                      ⟨some 65, .pick (.t 63) (.t 64) (.c (.bool false)), none⟩, 
                      ⟨some 6, .move (.t 65), none⟩] false)
                  (.ret))))))) }

/- sequitur/sequiturlaw07.TermNames -/
def F9 : AF :=
  { ntmps := 20, results := [.tmp 2], pure := true, body :=
    .seq
      (.ops [⟨some 2, .move (.c (.bool false)), none⟩] false)
      (.seq
        (.seq
          (.ops [⟨some 3, .move (.t 0), none⟩, 
              ⟨some 4, .len (.t 3), none⟩, 
              ⟨some 5, .bin .gtr (.t 4) (.c (.int .i64 20)), none⟩, 
              ⟨some 6, .move (.t 5), none⟩, 
              ⟨some 7, .move (.t 0), some (6, false)⟩, 
              ⟨some 8, .call 16 [.t 7], some (6, false)⟩, 
              ⟨some 9, .not (.t 8), some (6, false)⟩, 
              ⟨some 10, .pick (.t 6) (.c (.bool true)) (.t 9), none⟩] false)
          (.cond (.t 10)
            (.seq
              (.ops [⟨some 11, .call 11 [], none⟩, 
                  ⟨some 2, .move (.t 11), none⟩] false)
              (.ret))
            (.skip)))
        (.seq
          (.ops [⟨some 12, .move (.t 0), none⟩, 
              ⟨some 13, .call 28 [.t 12], none⟩, 
              ⟨some 14, .move (.t 0), none⟩, 
              ⟨some 15, .call 29 [.t 14], none⟩, 
              ⟨some 16, .call 27 [.t 13, .t 15], none⟩, 
              ⟨some 17, .move (.t 16), none⟩, 
              ⟨some 18, .call 11 [], some (17, true)⟩, 
              ⟨some 19, .pick (.t 17) (.t 18) (.c (.bool false)), none⟩, 
              ⟨some 2, .move (.t 19), none⟩] false)
          (.ret))) }

/- sequitur/sequiturbase.Size -/
def L10_0 : AC :=
  .seq
    (.seq
      (.ops [⟨some 7, .move (.t 6), none⟩, 
          ⟨some 8, .fieldA 3 (.t 2), none⟩, 
          ⟨some 9, .load false 1 (.t 8), none⟩, 
          ⟨some 10, .len (.t 9), none⟩, 
          ⟨some 11, .bin .lss (.t 7) (.t 10), none⟩, 
          ⟨some 12, .move (.t 11), none⟩, 
          ⟨some 13, .move (.t 5), some (12, true)⟩, 
          ⟨some 14, .move (.t 1), some (12, true)⟩, 
          ⟨some 15, .bin .leq (.t 13) (.t 14), some (12, true)⟩, 
          ⟨some 16, .pick (.t 12) (.t 15) (.c (.bool false)), none⟩] false)
      (.cond (.t 16)
        (.skip)
        (.exit 0)))
    (.seq
      (.block 1
        (.ops [⟨some 19, .move (.t 5), none⟩, 
            ⟨some 20, .fieldA 3 (.t 2), none⟩, 
            ⟨some 21, .load false 1 (.t 20), none⟩, 
            ⟨some 22, .move (.t 6), none⟩, 
            ⟨some 23, .idxA 4 (.t 21) (.t 22), none⟩, 
            ⟨some 24, .load true 4 (.t 23), none⟩, 
            ⟨some 25, .move (.t 1), none⟩, 
            ⟨some 26, .move (.t 5), none⟩, 
            ⟨some 27, .bin .sub (.t 25) (.t 26), none⟩, 
            ⟨some 28, .call 10 [.t 24, .t 27], none⟩, 
            ⟨some 29, .bin .add (.t 19) (.t 28), none⟩, 
            ⟨some 5, .move (.t 29), none⟩] false))
      (.ops [⟨some 17, .move (.t 6), none⟩, 
          ⟨some 18, .bin .add (.t 17) (.c (.int .i64 1)), none⟩, 
          ⟨some 6, .move (.t 18), none⟩] false))
def F10 : AF :=
  { ntmps := 31, results := [.tmp 4], pure := true, body :=
    .seq
      (.ops [⟨some 2, .box 24 (.t 0), none⟩, 
          ⟨some 4, .move (.c (.int .i64 0)), none⟩] false)
      (.seq
        (.ops [⟨some 5, .move (.c (.int .i64 1)), none⟩] false)
        (.seq
          (.seq
            (.ops [⟨some 6, .move (.c (.int .i64 0)), none⟩] false)
            (.block 0
              (.loop L10_0)))
          (.seq
            (.ops [⟨some 30, .move (.t 5), none⟩, 
                ⟨some 4, .move (.t 30), none⟩] false)
            (.ret)))) }

/- sequitur/sequiturlaw07.goes -/
def F11 : AF :=
  { ntmps := 32, results := [.tmp 0], pure := true, body :=
    .seq
      (.ops [⟨some 0, .move (.c (.bool false)), none⟩] false)
      (.seq
        (.ops [⟨some 2, .build [.int .i64 0, .str ⟨#[]⟩, .int .i64 0, .fsl 4 []] [(0, 1, .c (.int .i64 1)), (1, 1, .c (.str ⟨#[120]⟩))], none⟩, 
            ⟨some 3, .build [.int .i64 0, .str ⟨#[]⟩, .int .i64 0, .fsl 4 []] [(0, 1, .c (.int .i64 4)), (2, 1, .c (.int .i64 3))], none⟩, 
            ⟨some 4, .buildSl 4 [.int .i64 0, .str ⟨#[]⟩, .int .i64 0, .fsl 4 []] 2 [(0, .t 2), (1, .t 3)], none⟩, 
            ⟨some 5, .build [.int .i64 0, .str ⟨#[]⟩, .int .i64 0, .fsl 4 []] [(0, 1, .c (.int .i64 3)), (1, 1, .c (.str ⟨#[102]⟩)), (3, 1, .t 4)], none⟩, 
            ⟨some 1, .alloc 24 [.int .i64 0, .str ⟨#[]⟩, .int .i64 0, .fsl 4 []], none⟩, 
            ⟨none, .store 4 (.t 1) (.t 5), none⟩] false)
        (.seq
          (.ops [⟨some 6, .load true 4 (.t 1), none⟩, 
              ⟨some 7, .call 30 [.t 6], none⟩, 
              ⟨some 8, .bin .eql (.t 7) (.c (.int .i64 3)), none⟩, 
              ⟨some 9, .move (.t 8), none⟩, 
              ⟨some 10, .load true 4 (.t 1), some (9, true)⟩, 
              ⟨some 11, .call 31 [.t 10], some (9, true)⟩, 
              ⟨some 12, .bin .eql (.t 11) (.c (.int .i64 2)), some (9, true)⟩, 
              ⟨some 13, .pick (.t 9) (.t 12) (.c (.bool false)), none⟩, 
              ⟨some 14, .move (.t 13), none⟩, 
              ⟨some 15, .load true 4 (.t 1), some (14, true)⟩, 
              ⟨some 16, .call 19 [.t 15], some (14, true)⟩, 
              ⟨some 17, .len (.t 16), some (14, true)⟩, 
              ⟨some 18, .bin .eql (.t 17) (.c (.int .i64 3)), some (14, true)⟩, 
              ⟨some 19, .pick (.t 14) (.t 18) (.c (.bool false)), none⟩, 
              ⟨some 20, .move (.t 19), none⟩, 
              ⟨some 21, .fieldA 3 (.t 1), some (20, true)⟩, 
              ⟨some 22, .load false 1 (.t 21), some (20, true)⟩, 
              ⟨some 23, .idxA 4 (.t 22) (.c (.int .i64 1)), some (20, true)⟩, 
              ⟨some 24, .load true 4 (.t 23), some (20, true)⟩, 
              ⟨some 25, .fieldA 3 (.t 1), some (20, true)⟩, 
              ⟨some 26, .load false 1 (.t 25), some (20, true)⟩, 
              ⟨some 27, .idxA 4 (.t 26) (.c (.int .i64 0)), some (20, true)⟩, 
              ⟨some 28, .load true 4 (.t 27), some (20, true)⟩, 
              ⟨some 29, .call 12 [.t 24, .t 28], some (20, true)⟩, 
              ⟨some 30, .bin .eql (.t 29) (.c (.int .i64 1)), some (20, true)⟩, 
              ⟨some 31, .pick (.t 20) (.t 30) (.c (.bool false)), none⟩, 
              ⟨some 0, .move (.t 31), none⟩] true)
          (.ret))) }

/- sequitur/term.Compare -/
def F12 : AF :=
  { ntmps := 34, results := [.tmp 4], pure := true, body :=
    .seq
      (.ops [⟨some 2, .box 24 (.t 0), none⟩, 
          ⟨some 3, .box 24 (.t 1), none⟩, 
          ⟨some 4, .move (.c (.int .i64 0)), none⟩] false)
      (.seq
        (.ops [⟨some 5, .fieldA 0 (.t 2), none⟩, 
            ⟨some 6, .load false 1 (.t 5), none⟩, 
            ⟨some 7, .fieldA 0 (.t 3), none⟩, 
            ⟨some 8, .load false 1 (.t 7), none⟩, 
            ⟨some 9, .call 33 [.t 6, .t 8], none⟩, 
            ⟨some 10, .fieldA 2 (.t 2), none⟩, 
            ⟨some 11, .load false 1 (.t 10), none⟩, 
            ⟨some 12, .fieldA 2 (.t 3), none⟩, 
            ⟨some 13, .load false 1 (.t 12), none⟩, 
            ⟨some 14, .call 34 [.t 11, .t 13], none⟩, 
            ⟨some 15, .fieldA 1 (.t 2), none⟩, 
            ⟨some 16, .load false 1 (.t 15), none⟩, 
            ⟨some 17, .fieldA 1 (.t 3), none⟩, 
            ⟨some 18, .load false 1 (.t 17), none⟩, 
            ⟨some 19, .call 35 [.t 16, .t 18], none⟩, 
            ⟨some 20, .fieldA 3 (.t 2), none⟩, 
            ⟨some 21, .load false 1 (.t 20), none⟩, 
            ⟨some 22, .len (.t 21), none⟩, 
            ⟨some 23, .fieldA 3 (.t 3), none⟩, 
            ⟨some 24, .load false 1 (.t 23), none⟩, 
            ⟨some 25, .len (.t 24), none⟩, 
            ⟨some 26, .call 33 [.t 22, .t 25], none⟩, 
            ⟨some 27, .fieldA 3 (.t 2), none⟩, 
            ⟨some 28, .load false 1 (.t 27), none⟩, 
            ⟨some 29, .fieldA 3 (.t 3), none⟩, 
            ⟨some 30, .load false 1 (.t 29), none⟩, 
            ⟨some 31, .call 36 [.t 28, .t 30, .f 12], none⟩, 
            ⟨some 32, .buildSl 1 [.int .i64 0] 5 [(0, .t 9), (1, .t 14), (2, .t 19), (3, .t 26), (4, .t 31)], none⟩, 
            ⟨some 33, .call 32 [.t 32], none⟩, 
            ⟨some 4, .move (.t 33), none⟩] true)
        (.ret)) }

/- sequitur/sequiturref07.Compare -/
def L13_0 : AC :=
  .seq
    (.seq
      (.ops [⟨some 58, .move (.t 6), none⟩, 
          ⟨some 59, .move (.t 5), none⟩, 
          ⟨some 60, .len (.t 59), none⟩, 
          ⟨some 61, .bin .lss (.t 58) (.t 60), none⟩] false)
      (.cond (.t 61)
        (.skip)
        (.exit 0)))
    (.seq
      (.block 1
        (.seq
          (.ops [⟨some 64, .move (.t 5), none⟩, 
              ⟨some 65, .move (.t 6), none⟩, 
              ⟨some 66, .idxA 1 (.t 64) (.t 65), none⟩, 
              ⟨some 67, .load false 1 (.t 66), none⟩, 
              ⟨some 68, .bin .neq (.t 67) (.c (.int .i64 0)), none⟩] false)
          (.cond (.t 68)
            (.seq
              (.ops [⟨some 69, .move (.t 5), none⟩, 
                  ⟨some 70, .move (.t 6), none⟩, 
                  ⟨some 71, .idxA 1 (.t 69) (.t 70), none⟩, 
                  ⟨some 72, .load false 1 (.t 71), none⟩, 
                  ⟨some 4, .move (.t 72), none⟩] false)
              (.ret))
            (.skip))))
      (.ops [⟨some 62, .move (.t 6), none⟩, 
          ⟨some 63, .bin .add (.t 62) (.c (.int .i64 1)), none⟩, 
          ⟨some 6, .move (.t 63), none⟩] false))

def L13_1 : AC :=
  .seq
    (.seq
      (.ops [⟨some 73, .move (.t 7), none⟩, 
          ⟨some 74, .fieldA 3 (.t 2), none⟩, 
          ⟨some 75, .load false 1 (.t 74), none⟩, 
          ⟨some 76, .len (.t 75), none⟩, 
          ⟨some 77, .bin .lss (.t 73) (.t 76), none⟩] false)
      (.cond (.t 77)
        (.skip)
        (.exit 2)))
    (.seq
      (.block 3
        (.seq
          (.ops [⟨some 80, .fieldA 3 (.t 2), none⟩, 
              ⟨some 81, .load false 1 (.t 80), none⟩, 
              ⟨some 82, .move (.t 7), none⟩, 
              ⟨some 83, .idxA 4 (.t 81) (.t 82), none⟩, 
              ⟨some 84, .load true 4 (.t 83), none⟩, 
              ⟨some 85, .fieldA 3 (.t 3), none⟩, 
              ⟨some 86, .load false 1 (.t 85), none⟩, 
              ⟨some 87, .move (.t 7), none⟩, 
              ⟨some 88, .idxA 4 (.t 86) (.t 87), none⟩, 
              ⟨some 89, .load true 4 (.t 88), none⟩, 
              ⟨some 90, .call 13 [.t 84, .t 89], none⟩, 
              ⟨some 8, .move (.t 90), none⟩] true)
          (.seq
            (.ops [⟨some 91, .move (.t 8), none⟩, 
                ⟨some 92, .bin .neq (.t 91) (.c (.int .i64 0)), none⟩] false)
            (.cond (.t 92)
              (.seq
                (.ops [⟨some 93, .move (.t 8), none⟩, 
                    ⟨some 4, .move (.t 93), none⟩] false)
                (.ret))
              (.skip)))))
      (.ops [⟨some 78, .move (.t 7), none⟩, 
          ⟨some 79, .bin .add (.t 78) (.c (.int .i64 1)), none⟩, 
          ⟨some 7, .move (.t 79), none⟩] false))
def F13 : AF :=
  { ntmps := 94, results := [.tmp 4], pure := true, body :=
    .seq
      (.ops [⟨some 2, .box 24 (.t 0), none⟩, 
          ⟨some 3, .box 24 (.t 1), none⟩, 
          ⟨some 4, .move (.c (.int .i64 0)), none⟩] false)
      (.seq
        (.ops [⟨some 9, .fieldA 0 (.t 2), none⟩, 
            ⟨some 10, .load false 1 (.t 9), none⟩, 
            ⟨some 11, .fieldA 0 (.t 3), none⟩, 
            ⟨some 12, .load false 1 (.t 11), none⟩, 
            ⟨some 13, .bin .lss (.t 10) (.t 12), none⟩, 
            ⟨some 14, .fieldA 0 (.t 2), none⟩, 
            ⟨some 15, .load false 1 (.t 14), none⟩, 
            ⟨some 16, .fieldA 0 (.t 3), none⟩, 
            ⟨some 17, .load false 1 (.t 16), none⟩, 
            ⟨some 18, .bin .gtr (.t 15) (.t 17), none⟩, 
            ⟨some 19, .call 37 [.t 13, .t 18], none⟩, 
            ⟨some 20, .fieldA 2 (.t 2), none⟩, 
            ⟨some 21, .load false 1 (.t 20), none⟩, 
            ⟨some 22, .fieldA 2 (.t 3), none⟩, 
            ⟨some 23, .load false 1 (.t 22), none⟩, 
            ⟨some 24, .bin .lss (.t 21) (.t 23), none⟩, 
            ⟨some 25, .fieldA 2 (.t 2), none⟩, 
            ⟨some 26, .load false 1 (.t 25), none⟩, 
            ⟨some 27, .fieldA 2 (.t 3), none⟩, 
            ⟨some 28, .load false 1 (.t 27), none⟩, 
            ⟨some 29, .bin .gtr (.t 26) (.t 28), none⟩, 
            ⟨some 30, .call 37 [.t 24, .t 29], none⟩, 
            ⟨some 31, .fieldA 1 (.t 2), none⟩, 
            ⟨some 32, .load false 1 (.t 31), none⟩, 
            ⟨some 33, .fieldA 1 (.t 3), none⟩, 
            ⟨some 34, .load false 1 (.t 33), none⟩, 
            ⟨some 35, .bin .lss (.t 32) (.t 34), none⟩, 
            ⟨some 36, .fieldA 1 (.t 2), none⟩, 
            ⟨some 37, .load false 1 (.t 36), none⟩, 
            ⟨some 38, .fieldA 1 (.t 3), none⟩, 
            ⟨some 39, .load false 1 (.t 38), none⟩, 
            ⟨some 40, .bin .gtr (.t 37) (.t 39), none⟩, 
            ⟨some 41, .call 37 [.t 35, .t 40], none⟩, 
            ⟨some 42, .fieldA 3 (.t 2), none⟩, 
            ⟨some 43, .load false 1 (.t 42), none⟩, 
            ⟨some 44, .len (.t 43), none⟩, 
            ⟨some 45, .fieldA 3 (.t 3), none⟩, 
            ⟨some 46, .load false 1 (.t 45), none⟩, 
            ⟨some 47, .len (.t 46), none⟩, 
            ⟨some 48, .bin .lss (.t 44) (.t 47), none⟩, 
            ⟨some 49, .fieldA 3 (.t 2), none⟩, 
            ⟨some 50, .load false 1 (.t 49), none⟩, 
            ⟨some 51, .len (.t 50), none⟩, 
            ⟨some 52, .fieldA 3 (.t 3), none⟩, 
            ⟨some 53, .load false 1 (.t 52), none⟩, 
            ⟨some 54, .len (.t 53), none⟩, 
            ⟨some 55, .bin .gtr (.t 51) (.t 54), none⟩, 
            ⟨some 56, .call 37 [.t 48, .t 55], none⟩, 
            ⟨some 57, .buildSl 1 [.int .i64 0] 4 [(0, .t 19), (1, .t 30), (2, .t 41), (3, .t 56)], none⟩, 
            ⟨some 5, .move (.t 57), none⟩] true)
        (.seq
          (.seq
            (.ops [⟨some 6, .move (.c (.int .i64 0)), none⟩] false)
            (.block 0
              (.loop L13_0)))
          (.seq
            (.seq
              (.ops [⟨some 7, .move (.c (.int .i64 0)), none⟩] false)
              (.block 2
                (.loop L13_1)))
            (.seq
              (.ops [⟨some 4, .move (.c (.int .i64 0)), none⟩] false)
              (.ret))))) }

/- sequitur/term.Same -/
def F14 : AF :=
  { ntmps := 9, results := [.tmp 4], pure := true, body :=
    .seq
      (.ops [⟨some 2, .box 24 (.t 0), none⟩, 
          ⟨some 3, .box 24 (.t 1), none⟩, 
          ⟨some 4, .move (.c (.bool false)), none⟩] false)
      (.seq
        (.ops [⟨some 5, .load true 4 (.t 2), none⟩, 
            ⟨some 6, .load true 4 (.t 3), none⟩, 
            ⟨some 7, .call 12 [.t 5, .t 6], none⟩, 
            ⟨some 8, .bin .eql (.t 7) (.c (.int .i64 0)), none⟩, 
            ⟨some 4, .move (.t 8), none⟩] false)
        (.ret)) }

/- sequitur/sequiturbase.Term -/
def F15 : AF :=
  { ntmps := 31, results := [.tmp 4], pure := true, body :=
    .seq
      (.ops [⟨some 2, .box 24 (.t 0), none⟩, 
          ⟨some 3, .box 24 (.t 1), none⟩, 
          ⟨some 4, .move (.c (.bool false)), none⟩] false)
      (.seq
        (.ops [⟨some 5, .fieldA 0 (.t 2), none⟩, 
            ⟨some 6, .load false 1 (.t 5), none⟩, 
            ⟨some 7, .fieldA 0 (.t 3), none⟩, 
            ⟨some 8, .load false 1 (.t 7), none⟩, 
            ⟨some 9, .bin .eql (.t 6) (.t 8), none⟩, 
            ⟨some 10, .move (.t 9), none⟩, 
            ⟨some 11, .fieldA 1 (.t 2), some (10, true)⟩, 
            ⟨some 12, .load false 1 (.t 11), some (10, true)⟩, 
            ⟨some 13, .fieldA 1 (.t 3), some (10, true)⟩, 
            ⟨some 14, .load false 1 (.t 13), some (10, true)⟩, 
            ⟨some 15, .bin .eql (.t 12) (.t 14), some (10, true)⟩, 
            ⟨some 16, .pick (.t 10) (.t 15) (.c (.bool false)), none⟩, 
            ⟨some 17, .move (.t 16), none⟩, 
            ⟨some 18, .fieldA 2 (.t 2), some (17, true)⟩, 
            ⟨some 19, .load false 1 (.t 18), some (17, true)⟩, 
            ⟨some 20, .fieldA 2 (.t 3), some (17, true)⟩, 
            ⟨some 21, .load false 1 (.t 20), some (17, true)⟩, 
            ⟨some 22, .bin .eql (.t 19) (.t 21), some (17, true)⟩, 
            ⟨some 23, .pick (.t 17) (.t 22) (.c (.bool false)), none⟩, 
            ⟨some 24, .move (.t 23), none⟩, 
            ⟨some 25, .fieldA 3 (.t 2), some (24, true)⟩, 
            ⟨some 26, .load false 1 (.t 25), some (24, true)⟩, 
            ⟨some 27, .fieldA 3 (.t 3), some (24, true)⟩, 
            ⟨some 28, .load false 1 (.t 27), some (24, true)⟩, 
            ⟨some 29, .call 18 [.t 26, .t 28], some (24, true)⟩, 
            ⟨some 30, .pick (.t 24) (.t 29) (.c (.bool false)), none⟩, 
            ⟨some 4, .move (.t 30), none⟩] false)
        (.ret)) }

/- sequitur/sequiturlaw07.Small -/
def L16_0 : AC :=
  .seq
    (.seq
      (.ops [⟨some 4, .move (.t 3), none⟩, 
          ⟨some 5, .move (.t 0), none⟩, 
          ⟨some 6, .len (.t 5), none⟩, 
          ⟨some 7, .bin .lss (.t 4) (.t 6), none⟩] false)
      (.cond (.t 7)
        (.skip)
        (.exit 0)))
    (.seq
      (.block 1
        (.seq
          (.ops [⟨some 10, .move (.t 0), none⟩, 
              ⟨some 11, .move (.t 3), none⟩, 
              ⟨some 12, .idxA 4 (.t 10) (.t 11), none⟩, 
              ⟨some 13, .load true 4 (.t 12), none⟩, 
              ⟨some 14, .call 10 [.t 13, .c (.int .i64 60)], none⟩, 
              ⟨some 15, .bin .gtr (.t 14) (.c (.int .i64 60)), none⟩] false)
          (.cond (.t 15)
            (.seq
              (.ops [⟨some 2, .move (.c (.bool false)), none⟩] false)
              (.ret))
            (.skip))))
      (.ops [⟨some 8, .move (.t 3), none⟩, 
          ⟨some 9, .bin .add (.t 8) (.c (.int .i64 1)), none⟩, 
          ⟨some 3, .move (.t 9), none⟩] false))
def F16 : AF :=
  { ntmps := 16, results := [.tmp 2], pure := true, body :=
    .seq
      (.ops [⟨some 2, .move (.c (.bool false)), none⟩] false)
      (.seq
        (.seq
          (.ops [⟨some 3, .move (.c (.int .i64 0)), none⟩] false)
          (.block 0
            (.loop L16_0)))
        (.seq
          (.ops [⟨some 2, .move (.c (.bool true)), none⟩] false)
          (.ret))) }

/- sequitur/sequiturref07.Parts -/
def L17_0 : AC :=
  .seq
    (.seq
      (.ops [⟨some 8, .move (.t 5), none⟩, 
          ⟨some 9, .move (.t 4), none⟩, 
          ⟨some 10, .len (.t 9), none⟩, 
          ⟨some 11, .bin .lss (.t 8) (.t 10), none⟩] false)
      (.cond (.t 11)
        (.skip)
        (.exit 0)))
    (.seq
      (.block 1
        (.seq
          (.ops [⟨some 14, .move (.t 3), none⟩, 
              ⟨some 15, .move (.t 4), none⟩, 
              ⟨some 16, .move (.t 5), none⟩, 
              ⟨some 17, .idxA 4 (.t 15) (.t 16), none⟩, 
              ⟨some 18, .load true 4 (.t 17), none⟩, 
              ⟨some 19, .call 21 [.t 14, .t 18], none⟩, 
              ⟨some 20, .not (.t 19), none⟩] false)
          (.cond (.t 20)
            (.ops [⟨some 21, .move (.t 3), none⟩, 
                ⟨some 22, .move (.t 4), none⟩, 
                ⟨some 23, .move (.t 5), none⟩, 
                ⟨some 24, .idxA 4 (.t 22) (.t 23), none⟩, 
                ⟨some 25, .load true 4 (.t 24), none⟩, 
                ⟨some 26, .buildSl 4 [.int .i64 0, .str ⟨#[]⟩, .int .i64 0, .fsl 4 []] 1 [(0, .t 25)], none⟩, 
                ⟨some 27, .append 24 4 56 (.t 21) (.t 26), none⟩, 
                ⟨some 3, .move (.t 27), none⟩] false)
            (.skip))))
      (.ops [⟨some 12, .move (.t 5), none⟩, 
          ⟨some 13, .bin .add (.t 12) (.c (.int .i64 1)), none⟩, 
          ⟨some 5, .move (.t 13), none⟩] false))
def F17 : AF :=
  { ntmps := 29, results := [.tmp 2], pure := true, body :=
    .seq
      (.ops [⟨some 1, .box 24 (.t 0), none⟩, 
          ⟨some 2, .move (.c (.fsl 4 [])), none⟩] false)
      (.seq
        (.ops [⟨some 3, .move (.c (.fsl 4 [])), none⟩] false)
        (.seq
          (.ops [⟨some 6, .load true 4 (.t 1), none⟩, 
              ⟨some 7, .call 38 [.t 6], none⟩, 
              ⟨some 4, .move (.t 7), none⟩] false)
          (.seq
            (.seq
              (.ops [⟨some 5, .move (.c (.int .i64 0)), none⟩] false)
              (.block 0
                (.loop L17_0)))
            (.seq
              (.ops [⟨some 28, .move (.t 3), none⟩, 
                  ⟨some 2, .move (.t 28), none⟩] false)
              (.ret))))) }

/- sequitur/sequiturbase.Terms -/
def L18_0 : AC :=
  .seq
    (.seq
      (.ops [⟨some 11, .move (.t 5), none⟩, 
          ⟨some 12, .move (.t 0), none⟩, 
          ⟨some 13, .len (.t 12), none⟩, 
          ⟨some 14, .bin .lss (.t 11) (.t 13), none⟩] false)
      (.cond (.t 14)
        (.skip)
        (.exit 0)))
    (.seq
      (.block 1
        (.seq
          (.ops [⟨some 17, .move (.t 0), none⟩, 
              ⟨some 18, .move (.t 5), none⟩, 
              ⟨some 19, .idxA 4 (.t 17) (.t 18), none⟩, 
              ⟨some 20, .load true 4 (.t 19), none⟩, 
              ⟨some 21, .move (.t 1), none⟩, 
              ⟨some 22, .move (.t 5), none⟩, 
              ⟨some 23, .idxA 4 (.t 21) (.t 22), none⟩, 
              ⟨some 24, .load true 4 (.t 23), none⟩, 
              ⟨some 25, .call 15 [.t 20, .t 24], none⟩, 
              ⟨some 26, .not (.t 25), none⟩] true)
          (.cond (.t 26)
            (.seq
              (.ops [⟨some 4, .move (.c (.bool false)), none⟩] false)
              (.ret))
            (.skip))))
      (.ops [⟨some 15, .move (.t 5), none⟩, 
          ⟨some 16, .bin .add (.t 15) (.c (.int .i64 1)), none⟩, 
          ⟨some 5, .move (.t 16), none⟩] false))
def F18 : AF :=
  { ntmps := 27, results := [.tmp 4], pure := true, body :=
    .seq
      (.ops [⟨some 4, .move (.c (.bool false)), none⟩] false)
      (.seq
        (.seq
          (.ops [⟨some 6, .move (.t 0), none⟩, 
              ⟨some 7, .len (.t 6), none⟩, 
              ⟨some 8, .move (.t 1), none⟩, 
              ⟨some 9, .len (.t 8), none⟩, 
              ⟨some 10, .bin .neq (.t 7) (.t 9), none⟩] false)
          (.cond (.t 10)
            (.seq
              (.ops [⟨some 4, .move (.c (.bool false)), none⟩] false)
              (.ret))
            (.skip)))
        (.seq
          (.seq
            (.ops [⟨some 5, .move (.c (.int .i64 0)), none⟩] false)
            (.block 0
              (.loop L18_0)))
          (.seq
            (.ops [⟨some 4, .move (.c (.bool true)), none⟩] false)
            (.ret)))) }

/- sequitur/term.Parts -/
def A19_0 : AC :=
  .ops [⟨some 4, .alloc 24 [.int .i64 0, .str ⟨#[]⟩, .int .i64 0, .fsl 4 []], none⟩, 
      ⟨none, .store 4 (.t 4) (.t 7), none⟩] false

def B19_0 : AC :=
  .block 1
    (.seq
      (.ops [⟨some 8, .load false 1 (.t 3), none⟩, 
          ⟨some 9, .load true 4 (.t 4), none⟩, 
          ⟨some 10, .call 41 [.t 9], none⟩, 
          ⟨some 11, .call 40 [.t 8, .t 10], none⟩, 
          ⟨some 12, .not (.t 11), none⟩] true)
      (.cond (.t 12)
        (.ops [⟨some 13, .load false 1 (.t 3), none⟩, 
            ⟨some 14, .load true 4 (.t 4), none⟩, 
            ⟨some 15, .len (.t 13), none⟩, 
            ⟨some 16, .buildSl 4 [.int .i64 0, .str ⟨#[]⟩, .int .i64 0, .fsl 4 []] 1 [(0, .c (.agg [.int .i64 0, .str ⟨#[]⟩, .int .i64 0, .fsl 0 []]))], none⟩, 
            ⟨some 17, .append 24 4 56 (.t 13) (.t 16), none⟩, 
            ⟨some 18, .idxA 4 (.t 17) (.t 15), none⟩, 
            ⟨none, .store 4 (.t 18) (.t 14), none⟩, 
            ⟨none, .store 1 (.t 3) (.t 17), none⟩] true)
        (.skip)))
def F19 : AF :=
  { ntmps := 20, results := [.tmp 2], pure := true, body :=
    .seq
      (.ops [⟨some 1, .box 24 (.t 0), none⟩, 
          ⟨some 2, .move (.c (.fsl 4 [])), none⟩] false)
      (.seq
        (.ops [⟨some 3, .alloc 22 [.fsl 4 []], none⟩] false)
        (.seq
          (.seq
            (.ops [⟨some 5, .load true 4 (.t 1), none⟩, 
                ⟨some 6, .call 39 [.t 5], none⟩] false)
            (.block 0
              (.range (.t 6) [7] A19_0 B19_0)))
          (.seq
            (.ops [⟨some 19, .load false 1 (.t 3), none⟩, 
                ⟨some 2, .move (.t 19), none⟩] false)
            (.ret)))) }

/- sequitur/term.Has -/
def A20_0 : AC :=
  .ops [⟨some 5, .alloc 24 [.int .i64 0, .str ⟨#[]⟩, .int .i64 0, .fsl 4 []], none⟩, 
      ⟨none, .store 4 (.t 5) (.t 8), none⟩] false

def B20_0 : AC :=
  .block 1
    (.seq
      (.ops [⟨some 9, .load true 4 (.t 5), none⟩, 
          ⟨some 10, .load true 4 (.t 3), none⟩, 
          ⟨some 11, .call 14 [.t 9, .t 10], none⟩] false)
      (.cond (.t 11)
        (.seq
          (.ops [⟨none, .store 1 (.t 4) (.c (.bool true)), none⟩] false)
          (.ret))
        (.skip)))
def F20 : AF :=
  { ntmps := 12, results := [.cell 4 false 1], pure := true, body :=
    .seq
      (.ops [⟨some 2, .box 24 (.t 0), none⟩, 
          ⟨some 3, .box 24 (.t 1), none⟩, 
          ⟨some 4, .alloc 4 [.bool false], none⟩] false)
      (.seq
        (.seq
          (.ops [⟨some 6, .load true 4 (.t 2), none⟩, 
              ⟨some 7, .call 39 [.t 6], none⟩] false)
          (.block 0
            (.range (.t 7) [8] A20_0 B20_0)))
        (.seq
          (.ops [⟨none, .store 1 (.t 4) (.c (.bool false)), none⟩] false)
          (.ret))) }

/- sequitur/sequiturref07.In -/
def L21_0 : AC :=
  .seq
    (.seq
      (.ops [⟨some 6, .move (.t 5), none⟩, 
          ⟨some 7, .move (.t 0), none⟩, 
          ⟨some 8, .len (.t 7), none⟩, 
          ⟨some 9, .bin .lss (.t 6) (.t 8), none⟩] false)
      (.cond (.t 9)
        (.skip)
        (.exit 0)))
    (.seq
      (.block 1
        (.seq
          (.ops [⟨some 12, .move (.t 0), none⟩, 
              ⟨some 13, .move (.t 5), none⟩, 
              ⟨some 14, .idxA 4 (.t 12) (.t 13), none⟩, 
              ⟨some 15, .load true 4 (.t 14), none⟩, 
              ⟨some 16, .load true 4 (.t 3), none⟩, 
              ⟨some 17, .call 15 [.t 15, .t 16], none⟩] true)
          (.cond (.t 17)
            (.seq
              (.ops [⟨some 4, .move (.c (.bool true)), none⟩] false)
              (.ret))
            (.skip))))
      (.ops [⟨some 10, .move (.t 5), none⟩, 
          ⟨some 11, .bin .add (.t 10) (.c (.int .i64 1)), none⟩, 
          ⟨some 5, .move (.t 11), none⟩] false))
def F21 : AF :=
  { ntmps := 18, results := [.tmp 4], pure := true, body :=
    .seq
      (.ops [⟨some 3, .box 24 (.t 1), none⟩, 
          ⟨some 4, .move (.c (.bool false)), none⟩] false)
      (.seq
        (.seq
          (.ops [⟨some 5, .move (.c (.int .i64 0)), none⟩] false)
          (.block 0
            (.loop L21_0)))
        (.seq
          (.ops [⟨some 4, .move (.c (.bool false)), none⟩] false)
          (.ret))) }

/- sequitur/sequiturref07.Twin -/
def L22_0 : AC :=
  .seq
    (.seq
      (.ops [⟨some 12, .move (.t 4), none⟩, 
          ⟨some 13, .fieldA 3 (.t 1), none⟩, 
          ⟨some 14, .load false 1 (.t 13), none⟩, 
          ⟨some 15, .len (.t 14), none⟩, 
          ⟨some 16, .bin .lss (.t 12) (.t 15), none⟩] false)
      (.cond (.t 16)
        (.skip)
        (.exit 0)))
    (.seq
      (.block 1
        (.ops [⟨some 19, .fieldA 3 (.t 3), none⟩, 
            ⟨some 20, .load false 1 (.t 19), none⟩, 
            ⟨some 21, .fieldA 3 (.t 1), none⟩, 
            ⟨some 22, .load false 1 (.t 21), none⟩, 
            ⟨some 23, .move (.t 4), none⟩, 
            ⟨some 24, .idxA 4 (.t 22) (.t 23), none⟩, 
            ⟨some 25, .load true 4 (.t 24), none⟩, 
            ⟨some 26, .call 22 [.t 25], none⟩, 
            ⟨some 27, .buildSl 4 [.int .i64 0, .str ⟨#[]⟩, .int .i64 0, .fsl 4 []] 1 [(0, .t 26)], none⟩, 
            ⟨some 28, .append 24 4 56 (.t 20) (.t 27), none⟩, 
            ⟨some 29, .fieldA 3 (.t 3), none⟩, 
            ⟨none, .store 1 (.t 29) (.t 28), none⟩] true))
      (.ops [⟨some 17, .move (.t 4), none⟩, 
          ⟨some 18, .bin .add (.t 17) (.c (.int .i64 1)), none⟩, 
          ⟨some 4, .move (.t 18), none⟩] false))
def F22 : AF :=
  { ntmps := 31, results := [.cell 2 true 4], pure := true, body :=
    .seq
      (.ops [⟨some 1, .box 24 (.t 0), none⟩, 
          ⟨some 2, .alloc 24 [.int .i64 0, .str ⟨#[]⟩, .int .i64 0, .fsl 4 []], none⟩] false)
      (.seq
        (.ops [⟨some 5, .fieldA 0 (.t 1), none⟩, 
            ⟨some 6, .load false 1 (.t 5), none⟩, 
            ⟨some 7, .fieldA 1 (.t 1), none⟩, 
            ⟨some 8, .load false 1 (.t 7), none⟩, 
            ⟨some 9, .fieldA 2 (.t 1), none⟩, 
            ⟨some 10, .load false 1 (.t 9), none⟩, 
            ⟨some 11, .build [.int .i64 0, .str ⟨#[]⟩, .int .i64 0, .fsl 4 []] [(0, 1, .t 6), (1, 1, .t 8), (2, 1, .t 10)], none⟩, 
            ⟨some 3, .alloc 24 [.int .i64 0, .str ⟨#[]⟩, .int .i64 0, .fsl 4 []], none⟩, 
            ⟨none, .store 4 (.t 3) (.t 11), none⟩] false)
        (.seq
          (.seq
            (.ops [⟨some 4, .move (.c (.int .i64 0)), none⟩] false)
            (.block 0
              (.loop L22_0)))
          (.seq
            (.ops [⟨some 30, .load true 4 (.t 3), none⟩, 
                ⟨none, .store 4 (.t 2) (.t 30), none⟩] false)
            (.ret)))) }

/- sequitur/term.Copy -/
def F23 : AF :=
  { ntmps := 5, results := [.cell 2 true 4], pure := true, body :=
    .seq
      (.ops [⟨some 1, .box 24 (.t 0), none⟩, 
          ⟨some 2, .alloc 24 [.int .i64 0, .str ⟨#[]⟩, .int .i64 0, .fsl 4 []], none⟩] false)
      (.seq
        (.ops [⟨some 3, .load true 4 (.t 1), none⟩, 
            ⟨some 4, .call 42 [.t 3, .f 23], none⟩, 
            ⟨none, .store 4 (.t 2) (.t 4), none⟩] false)
        (.ret)) }

/- sequitur/sequiturlaw07.spoil -/
def L24_0 : AC :=
  .seq
    (.seq
      (.ops [⟨some 3, .move (.t 2), none⟩, 
          ⟨some 4, .fieldA 3 (.t 1), none⟩, 
          ⟨some 5, .load false 1 (.t 4), none⟩, 
          ⟨some 6, .len (.t 5), none⟩, 
          ⟨some 7, .bin .lss (.t 3) (.t 6), none⟩] false)
      (.cond (.t 7)
        (.skip)
        (.exit 0)))
    (.seq
      (.block 1
        (.seq
          (.ops [⟨some 10, .fieldA 3 (.t 1), none⟩, 
              ⟨some 11, .load false 1 (.t 10), none⟩, 
              ⟨some 12, .move (.t 2), none⟩, 
              ⟨some 13, .idxA 4 (.t 11) (.t 12), none⟩, 
              ⟨some 14, .load true 4 (.t 13), none⟩, 
              ⟨some 15, .call 24 [.t 14], none⟩] false)
          (.ops [⟨some 16, .fieldA 3 (.t 1), none⟩, 
              ⟨some 17, .load false 1 (.t 16), none⟩, 
              ⟨some 18, .move (.t 2), none⟩, 
              ⟨some 19, .build [.int .i64 0, .str ⟨#[]⟩, .int .i64 0, .fsl 4 []] [(0, 1, .c (.int .i64 (-1))), (1, 1, .c (.str ⟨#[115, 112, 111, 105, 108, 116]⟩))], none⟩, 
              ⟨some 20, .idxA 4 (.t 17) (.t 18), none⟩, 
              ⟨none, .store 4 (.t 20) (.t 19), none⟩] false)))
      (.ops [⟨some 8, .move (.t 2), none⟩, 
          ⟨some 9, .bin .add (.t 8) (.c (.int .i64 1)), none⟩, 
          ⟨some 2, .move (.t 9), none⟩] false))
def F24 : AF :=
  { ntmps := 21, results := [], pure := true, body :=
    .seq
      (.ops [⟨some 1, .box 24 (.t 0), none⟩] false)
      (.seq
        (.ops [⟨some 2, .move (.c (.int .i64 0)), none⟩] false)
        (.block 0
          (.loop L24_0))) }

/- sequitur/term.Replace -/
def F25 : AF :=
  { ntmps := 15, results := [.cell 6 true 4], pure := true, body :=
    .seq
      (.ops [⟨some 3, .box 24 (.t 0), none⟩, 
          ⟨some 4, .box 24 (.t 1), none⟩, 
          ⟨some 5, .box 24 (.t 2), none⟩, 
          ⟨some 6, .alloc 24 [.int .i64 0, .str ⟨#[]⟩, .int .i64 0, .fsl 4 []], none⟩] false)
      (.seq
        (.seq
          (.ops [⟨some 7, .load true 4 (.t 3), none⟩, 
              ⟨some 8, .load true 4 (.t 4), none⟩, 
              ⟨some 9, .call 14 [.t 7, .t 8], none⟩] false)
          (.cond (.t 9)
            (.seq
              (.ops [⟨some 10, .load true 4 (.t 5), none⟩, 
                  ⟨some 11, .call 23 [.t 10], none⟩, 
                  ⟨none, .store 4 (.t 6) (.t 11), none⟩] false)
              (.ret))
            (.skip)))
        (.seq
          (.ops [⟨some 12, .load true 4 (.t 3), none⟩, 
              ⟨some 13, .mkfn (.func 43) [] [.t 4, .t 5], none⟩, 
              ⟨some 14, .call 42 [.t 12, .t 13], none⟩, 
              ⟨none, .store 4 (.t 6) (.t 14), none⟩] false)
          (.ret))) }

/- sequitur/sequiturref07.Replace -/
def L26_0 : AC :=
  .seq
    (.seq
      (.ops [⟨some 13, .move (.t 8), none⟩, 
          ⟨some 14, .fieldA 3 (.t 3), none⟩, 
          ⟨some 15, .load false 1 (.t 14), none⟩, 
          ⟨some 16, .len (.t 15), none⟩, 
          ⟨some 17, .bin .lss (.t 13) (.t 16), none⟩] false)
      (.cond (.t 17)
        (.skip)
        (.exit 0)))
    (.seq
      (.block 1
        (.ops [⟨some 20, .move (.t 7), none⟩, 
            ⟨some 21, .fieldA 3 (.t 3), none⟩, 
            ⟨some 22, .load false 1 (.t 21), none⟩, 
            ⟨some 23, .move (.t 8), none⟩, 
            ⟨some 24, .idxA 4 (.t 22) (.t 23), none⟩, 
            ⟨some 25, .load true 4 (.t 24), none⟩, 
            ⟨some 26, .load true 4 (.t 4), none⟩, 
            ⟨some 27, .load true 4 (.t 5), none⟩, 
            ⟨some 28, .call 26 [.t 25, .t 26, .t 27], none⟩, 
            ⟨some 29, .buildSl 4 [.int .i64 0, .str ⟨#[]⟩, .int .i64 0, .fsl 4 []] 1 [(0, .t 28)], none⟩, 
            ⟨some 30, .append 24 4 56 (.t 20) (.t 29), none⟩, 
            ⟨some 7, .move (.t 30), none⟩] true))
      (.ops [⟨some 18, .move (.t 8), none⟩, 
          ⟨some 19, .bin .add (.t 18) (.c (.int .i64 1)), none⟩, 
          ⟨some 8, .move (.t 19), none⟩] false))
def F26 : AF :=
  { ntmps := 34, results := [.cell 6 true 4], pure := true, body :=
    .seq
      (.ops [⟨some 3, .box 24 (.t 0), none⟩, 
          ⟨some 4, .box 24 (.t 1), none⟩, 
          ⟨some 5, .box 24 (.t 2), none⟩, 
          ⟨some 6, .alloc 24 [.int .i64 0, .str ⟨#[]⟩, .int .i64 0, .fsl 4 []], none⟩] false)
      (.seq
        (.seq
          (.ops [⟨some 9, .load true 4 (.t 3), none⟩, 
              ⟨some 10, .load true 4 (.t 4), none⟩, 
              ⟨some 11, .call 15 [.t 9, .t 10], none⟩] false)
          (.cond (.t 11)
            (.seq
              (.ops [⟨some 12, .load true 4 (.t 5), none⟩, 
                  ⟨none, .store 4 (.t 6) (.t 12), none⟩] false)
              (.ret))
            (.skip)))
        (.seq
          (.ops [⟨some 7, .move (.c (.fsl 4 [])), none⟩] false)
          (.seq
            (.seq
              (.ops [⟨some 8, .move (.c (.int .i64 0)), none⟩] false)
              (.block 0
                (.loop L26_0)))
            (.seq
              (.ops [⟨some 31, .load true 4 (.t 3), none⟩, 
                  ⟨some 32, .move (.t 7), none⟩, 
                  ⟨some 33, .call 44 [.t 31, .t 32], none⟩, 
                  ⟨none, .store 4 (.t 6) (.t 33), none⟩] false)
              (.ret))))) }

/- sequitur/sequiturbase.Strings -/
def L27_0 : AC :=
  .seq
    (.seq
      (.ops [⟨some 11, .move (.t 5), none⟩, 
          ⟨some 12, .move (.t 0), none⟩, 
          ⟨some 13, .len (.t 12), none⟩, 
          ⟨some 14, .bin .lss (.t 11) (.t 13), none⟩] false)
      (.cond (.t 14)
        (.skip)
        (.exit 0)))
    (.seq
      (.block 1
        (.seq
          (.ops [⟨some 17, .move (.t 0), none⟩, 
              ⟨some 18, .move (.t 5), none⟩, 
              ⟨some 19, .idxA 1 (.t 17) (.t 18), none⟩, 
              ⟨some 20, .load false 1 (.t 19), none⟩, 
              ⟨some 21, .move (.t 1), none⟩, 
              ⟨some 22, .move (.t 5), none⟩, 
              ⟨some 23, .idxA 1 (.t 21) (.t 22), none⟩, 
              ⟨some 24, .load false 1 (.t 23), none⟩, 
              ⟨some 25, .bin .neq (.t 20) (.t 24), none⟩] true)
          (.cond (.t 25)
            (.seq
              (.ops [⟨some 4, .move (.c (.bool false)), none⟩] false)
              (.ret))
            (.skip))))
      (.ops [⟨some 15, .move (.t 5), none⟩, 
          ⟨some 16, .bin .add (.t 15) (.c (.int .i64 1)), none⟩, 
          ⟨some 5, .move (.t 16), none⟩] false))
def F27 : AF :=
  { ntmps := 26, results := [.tmp 4], pure := true, body :=
    .seq
      (.ops [⟨some 4, .move (.c (.bool false)), none⟩] false)
      (.seq
        (.seq
          (.ops [⟨some 6, .move (.t 0), none⟩, 
              ⟨some 7, .len (.t 6), none⟩, 
              ⟨some 8, .move (.t 1), none⟩, 
              ⟨some 9, .len (.t 8), none⟩, 
              ⟨some 10, .bin .neq (.t 7) (.t 9), none⟩] false)
          (.cond (.t 10)
            (.seq
              (.ops [⟨some 4, .move (.c (.bool false)), none⟩] false)
              (.ret))
            (.skip)))
        (.seq
          (.seq
            (.ops [⟨some 5, .move (.c (.int .i64 0)), none⟩] false)
            (.block 0
              (.loop L27_0)))
          (.seq
            (.ops [⟨some 4, .move (.c (.bool true)), none⟩] false)
            (.ret)))) }

/- sequitur/term.Names -/
def A28_1 : AC :=
  .ops [⟨some 6, .alloc 24 [.int .i64 0, .str ⟨#[]⟩, .int .i64 0, .fsl 4 []], none⟩, 
      ⟨none, .store 4 (.t 6) (.t 15), none⟩] false

def B28_1 : AC :=
  .block 3
    (.seq
      (.ops [⟨some 16, .fieldA 0 (.t 6), none⟩, 
          ⟨some 17, .load false 1 (.t 16), none⟩, 
          ⟨some 18, .bin .eql (.t 17) (.c (.int .i64 1)), none⟩] false)
      (.cond (.t 18)
        (.ops [⟨some 19, .load false 1 (.t 3), none⟩, 
            ⟨some 20, .fieldA 1 (.t 6), none⟩, 
            ⟨some 21, .load false 1 (.t 20), none⟩, 
            ⟨some 22, .buildSl 1 [.str ⟨#[]⟩] 1 [(0, .t 21)], none⟩, 
            ⟨some 23, .append 9 1 16 (.t 19) (.t 22), none⟩, 
            ⟨none, .store 1 (.t 3) (.t 23), none⟩] false)
        (.skip)))

def L28_0 : AC :=
  .seq
    (.ops [⟨some 10, .bin .lss (.t 9) (.t 8), none⟩] false)
    (.seq
      (.cond (.t 10)
        (.skip)
        (.exit 0))
      (.seq
        (.block 1
          (.seq
            (.ops [⟨some 11, .idxA 4 (.t 7) (.t 9), none⟩, 
                ⟨some 12, .load true 4 (.t 11), none⟩, 
                ⟨some 5, .alloc 24 [.int .i64 0, .str ⟨#[]⟩, .int .i64 0, .fsl 4 []], none⟩, 
                ⟨none, .store 4 (.t 5) (.t 12), none⟩] false)
            (.seq
              (.ops [⟨some 13, .load true 4 (.t 5), none⟩, 
                  ⟨some 14, .call 39 [.t 13], none⟩] false)
              (.block 2
                (.range (.t 14) [15] A28_1 B28_1)))))
        (.ops [⟨some 24, .bin .add (.t 9) (.c (.int .i64 1)), none⟩, 
            ⟨some 9, .move (.t 24), none⟩] false)))
def F28 : AF :=
  { ntmps := 29, results := [.tmp 2], pure := true, body :=
    .seq
      (.ops [⟨some 2, .move (.c (.fsl 1 [])), none⟩] false)
      (.seq
        (.ops [⟨some 3, .alloc 39 [.fsl 1 []], none⟩] false)
        (.seq
          (.seq
            (.ops [⟨some 7, .move (.t 0), none⟩, 
                ⟨some 8, .len (.t 7), none⟩, 
                ⟨some 9, .move (.c (.int .i64 0)), none⟩] false)
            (.block 0
              (.loop L28_0)))
          (.seq
            (.ops [⟨some 25, .load false 1 (.t 3), none⟩, 
                ⟨some 26, .call 45 [.t 25], none⟩] false)
            (.seq
              (.ops [⟨some 27, .load false 1 (.t 3), none⟩, 
                  ⟨some 28, .call 46 [.t 27], none⟩, 
                  ⟨some 2, .move (.t 28), none⟩] false)
              (.ret))))) }

/- sequitur/sequiturref07.Names -/
def L29_1 : AC :=
  .seq
    (.seq
      (.ops [⟨some 18, .move (.t 6), none⟩, 
          ⟨some 19, .move (.t 5), none⟩, 
          ⟨some 20, .len (.t 19), none⟩, 
          ⟨some 21, .bin .lss (.t 18) (.t 20), none⟩] false)
      (.cond (.t 21)
        (.skip)
        (.exit 2)))
    (.seq
      (.block 3
        (.seq
          (.ops [⟨some 24, .move (.t 5), none⟩, 
              ⟨some 25, .move (.t 6), none⟩, 
              ⟨some 26, .idxA 4 (.t 24) (.t 25), none⟩, 
              ⟨some 27, .fieldA 0 (.t 26), none⟩, 
              ⟨some 28, .load false 1 (.t 27), none⟩, 
              ⟨some 29, .bin .eql (.t 28) (.c (.int .i64 1)), none⟩] false)
          (.cond (.t 29)
            (.ops [⟨some 30, .move (.t 3), none⟩, 
                ⟨some 31, .move (.t 5), none⟩, 
                ⟨some 32, .move (.t 6), none⟩, 
                ⟨some 33, .idxA 4 (.t 31) (.t 32), none⟩, 
                ⟨some 34, .fieldA 1 (.t 33), none⟩, 
                ⟨some 35, .load false 1 (.t 34), none⟩, 
                ⟨some 36, .call 47 [.t 30, .t 35], none⟩, 
                ⟨some 3, .move (.t 36), none⟩] false)
            (.skip))))
      (.ops [⟨some 22, .move (.t 6), none⟩, 
          ⟨some 23, .bin .add (.t 22) (.c (.int .i64 1)), none⟩, 
          ⟨some 6, .move (.t 23), none⟩] false))

def L29_0 : AC :=
  .seq
    (.seq
      (.ops [⟨some 7, .move (.t 4), none⟩, 
          ⟨some 8, .move (.t 0), none⟩, 
          ⟨some 9, .len (.t 8), none⟩, 
          ⟨some 10, .bin .lss (.t 7) (.t 9), none⟩] false)
      (.cond (.t 10)
        (.skip)
        (.exit 0)))
    (.seq
      (.block 1
        (.seq
          (.ops [⟨some 13, .move (.t 0), none⟩, 
              ⟨some 14, .move (.t 4), none⟩, 
              ⟨some 15, .idxA 4 (.t 13) (.t 14), none⟩, 
              ⟨some 16, .load true 4 (.t 15), none⟩, 
              ⟨some 17, .call 38 [.t 16], none⟩, 
              ⟨some 5, .move (.t 17), none⟩] false)
          (.seq
            (.ops [⟨some 6, .move (.c (.int .i64 0)), none⟩] false)
            (.block 2
              (.loop L29_1)))))
      (.ops [⟨some 11, .move (.t 4), none⟩, 
          ⟨some 12, .bin .add (.t 11) (.c (.int .i64 1)), none⟩, 
          ⟨some 4, .move (.t 12), none⟩] false))
def F29 : AF :=
  { ntmps := 38, results := [.tmp 2], pure := true, body :=
    .seq
      (.ops [⟨some 2, .move (.c (.fsl 1 [])), none⟩] false)
      (.seq
        (.ops [⟨some 3, .move (.c (.fsl 1 [])), none⟩] false)
        (.seq
          (.seq
            (.ops [⟨some 4, .move (.c (.int .i64 0)), none⟩] false)
            (.block 0
              (.loop L29_0)))
          (.seq
            (.ops [⟨some 37, .move (.t 3), none⟩, 
                ⟨some 2, .move (.t 37), none⟩] false)
            (.ret)))) }

/- sequitur/term.Size -/
def A30_0 : AC :=
  .skip

def B30_0 : AC :=
  .block 1
    (.seq
      (.ops [⟨some 7, .load false 1 (.t 3), none⟩, 
          ⟨some 8, .bin .add (.t 7) (.c (.int .i64 1)), none⟩, 
          ⟨none, .store 1 (.t 3) (.t 8), none⟩] false)
      (.seq
        (.ops [⟨some 9, .load false 1 (.t 3), none⟩, 
            ⟨some 10, .bin .gtr (.t 9) (.c (.int .i64 4096)), none⟩] false)
        (.cond (.t 10)
          (.exit 0)
          (.skip))))
def F30 : AF :=
  { ntmps := 12, results := [.tmp 2], pure := true, body :=
    .seq
      (.ops [⟨some 1, .box 24 (.t 0), none⟩, 
          ⟨some 2, .move (.c (.int .i64 0)), none⟩] false)
      (.seq
        (.ops [⟨some 3, .alloc 3 [.int .i64 0], none⟩, 
            ⟨none, .store 1 (.t 3) (.c (.int .i64 0)), none⟩] false)
        (.seq
          (.seq
            (.ops [⟨some 4, .load true 4 (.t 1), none⟩, 
                ⟨some 5, .call 39 [.t 4], none⟩] false)
            (.block 0
              (.range (.t 5) [6] A30_0 B30_0)))
          (.seq
            (.ops [⟨some 11, .load false 1 (.t 3), none⟩, 
                ⟨some 2, .move (.t 11), none⟩] false)
            (.ret)))) }

/- sequitur/term.Depth -/
def F31 : AF :=
  { ntmps := 5, results := [.tmp 2], pure := true, body :=
    .seq
      (.ops [⟨some 1, .box 24 (.t 0), none⟩, 
          ⟨some 2, .move (.c (.int .i64 0)), none⟩] false)
      (.seq
        (.ops [⟨some 3, .load true 4 (.t 1), none⟩, 
            ⟨some 4, .call 48 [.t 3, .c (.int .i64 65)], none⟩, 
            ⟨some 2, .move (.t 4), none⟩] false)
        (.ret)) }

/- cmp.Or[int] -/
def L32_0 : AC :=
  .seq
    (.ops [⟨some 9, .bin .lss (.t 8) (.t 7), none⟩] false)
    (.seq
      (.cond (.t 9)
        (.skip)
        (.exit 0))
      (.seq
        (.block 1
          (.seq
            (.ops [⟨some 10, .idxA 1 (.t 6) (.t 8), none⟩, 
                ⟨some 11, .load false 1 (.t 10), none⟩, 
                ⟨some 5, .move (.t 11), none⟩] false)
            (.seq
              (.ops [⟨some 12, .move (.t 5), none⟩, 
                  ⟨some 13, .move (.t 3), none⟩, 
                  ⟨some 14, .bin .neq (.t 12) (.t 13), none⟩] false)
              (.cond (.t 14)
                (.seq
                  (.ops [⟨some 15, .move (.t 5), none⟩, 
                      ⟨some 2, .move (.t 15), none⟩] false)
                  (.ret))
                (.skip)))))
        (.ops [⟨some 16, .bin .add (.t 8) (.c (.int .i64 1)), none⟩, 
            ⟨some 8, .move (.t 16), none⟩] false)))
def F32 : AF :=
  { ntmps := 18, results := [.tmp 2], pure := true, body :=
    .seq
      (.ops [⟨some 2, .move (.c (.int .i64 0)), none⟩] false)
      (.seq
        (.ops [⟨some 3, .move (.c (.int .i64 0)), none⟩] false)
        (.seq
          (.seq
            (.ops [⟨some 6, .move (.t 0), none⟩, 
                ⟨some 7, .len (.t 6), none⟩, 
                ⟨some 8, .move (.c (.int .i64 0)), none⟩] false)
            (.block 0
              (.loop L32_0)))
          (.seq
            (.ops [⟨some 17, .move (.t 3), none⟩, 
                ⟨some 2, .move (.t 17), none⟩] false)
            (.ret)))) }

/- cmp.Compare[int] -/
def F33 : AF :=
  { ntmps := 20, results := [.tmp 4], pure := true, body :=
    .seq
      (.ops [⟨some 4, .move (.c (.int .i64 0)), none⟩] false)
      (.seq
        (.ops [⟨some 7, .move (.t 0), none⟩, 
            ⟨some 8, .call 49 [.t 7], none⟩, 
            ⟨some 5, .move (.t 8), none⟩] false)
        (.seq
          (.ops [⟨some 9, .move (.t 1), none⟩, 
              ⟨some 10, .call 49 [.t 9], none⟩, 
              ⟨some 6, .move (.t 10), none⟩] false)
          (.seq
            (.seq
              (.ops [⟨some 11, .move (.t 5), none⟩] false)
              (.cond (.t 11)
                (.seq
                  (.seq
                    (.ops [⟨some 12, .move (.t 6), none⟩] false)
                    (.cond (.t 12)
                      (.seq
                        (.ops [⟨some 4, .move (.c (.int .i64 0)), none⟩] false)
                        (.ret))
                      (.skip)))
                  (.seq
                    (.ops [⟨some 4, .move (.c (.int .i64 (-1))), none⟩] false)
                    (.ret)))
                (.skip)))
            (.seq
              (.seq
                (.ops [⟨some 13, .move (.t 6), none⟩] false)
                (.cond (.t 13)
                  (.seq
                    (.ops [⟨some 4, .move (.c (.int .i64 1)), none⟩] false)
                    (.ret))
                  (.skip)))
              (.seq
                (.seq
                  (.ops [⟨some 14, .move (.t 0), none⟩, 
                      ⟨some 15, .move (.t 1), none⟩, 
                      ⟨some 16, .bin .lss (.t 14) (.t 15), none⟩] false)
                  (.cond (.t 16)
                    (.seq
                      (.ops [⟨some 4, .move (.c (.int .i64 (-1))), none⟩] false)
                      (.ret))
                    (.skip)))
                (.seq
                  (.seq
                    (.ops [⟨some 17, .move (.t 0), none⟩, 
                        ⟨some 18, .move (.t 1), none⟩, 
                        ⟨some 19, .bin .gtr (.t 17) (.t 18), none⟩] false)
                    (.cond (.t 19)
                      (.seq
                        (.ops [⟨some 4, .move (.c (.int .i64 1)), none⟩] false)
                        (.ret))
                      (.skip)))
                  (.seq
                    (.ops [⟨some 4, .move (.c (.int .i64 0)), none⟩] false)
                    (.ret)))))))) }

/- cmp.Compare[int64] -/
def F34 : AF :=
  { ntmps := 20, results := [.tmp 4], pure := true, body :=
    .seq
      (.ops [⟨some 4, .move (.c (.int .i64 0)), none⟩] false)
      (.seq
        (.ops [⟨some 7, .move (.t 0), none⟩, 
            ⟨some 8, .call 50 [.t 7], none⟩, 
            ⟨some 5, .move (.t 8), none⟩] false)
        (.seq
          (.ops [⟨some 9, .move (.t 1), none⟩, 
              ⟨some 10, .call 50 [.t 9], none⟩, 
              ⟨some 6, .move (.t 10), none⟩] false)
          (.seq
            (.seq
              (.ops [⟨some 11, .move (.t 5), none⟩] false)
              (.cond (.t 11)
                (.seq
                  (.seq
                    (.ops [⟨some 12, .move (.t 6), none⟩] false)
                    (.cond (.t 12)
                      (.seq
                        (.ops [⟨some 4, .move (.c (.int .i64 0)), none⟩] false)
                        (.ret))
                      (.skip)))
                  (.seq
                    (.ops [⟨some 4, .move (.c (.int .i64 (-1))), none⟩] false)
                    (.ret)))
                (.skip)))
            (.seq
              (.seq
                (.ops [⟨some 13, .move (.t 6), none⟩] false)
                (.cond (.t 13)
                  (.seq
                    (.ops [⟨some 4, .move (.c (.int .i64 1)), none⟩] false)
                    (.ret))
                  (.skip)))
              (.seq
                (.seq
                  (.ops [⟨some 14, .move (.t 0), none⟩, 
                      ⟨some 15, .move (.t 1), none⟩, 
                      ⟨some 16, .bin .lss (.t 14) (.t 15), none⟩] false)
                  (.cond (.t 16)
                    (.seq
                      (.ops [⟨some 4, .move (.c (.int .i64 (-1))), none⟩] false)
                      (.ret))
                    (.skip)))
                (.seq
                  (.seq
                    (.ops [⟨some 17, .move (.t 0), none⟩, 
                        ⟨some 18, .move (.t 1), none⟩, 
                        ⟨some 19, .bin .gtr (.t 17) (.t 18), none⟩] false)
                    (.cond (.t 19)
                      (.seq
                        (.ops [⟨some 4, .move (.c (.int .i64 1)), none⟩] false)
                        (.ret))
                      (.skip)))
                  (.seq
                    (.ops [⟨some 4, .move (.c (.int .i64 0)), none⟩] false)
                    (.ret)))))))) }

/- cmp.Compare[string] -/
def F35 : AF :=
  { ntmps := 20, results := [.tmp 4], pure := true, body :=
    .seq
      (.ops [⟨some 4, .move (.c (.int .i64 0)), none⟩] false)
      (.seq
        (.ops [⟨some 7, .move (.t 0), none⟩, 
            ⟨some 8, .call 51 [.t 7], none⟩, 
            ⟨some 5, .move (.t 8), none⟩] false)
        (.seq
          (.ops [⟨some 9, .move (.t 1), none⟩, 
              ⟨some 10, .call 51 [.t 9], none⟩, 
              ⟨some 6, .move (.t 10), none⟩] false)
          (.seq
            (.seq
              (.ops [⟨some 11, .move (.t 5), none⟩] false)
              (.cond (.t 11)
                (.seq
                  (.seq
                    (.ops [⟨some 12, .move (.t 6), none⟩] false)
                    (.cond (.t 12)
                      (.seq
                        (.ops [⟨some 4, .move (.c (.int .i64 0)), none⟩] false)
                        (.ret))
                      (.skip)))
                  (.seq
                    (.ops [⟨some 4, .move (.c (.int .i64 (-1))), none⟩] false)
                    (.ret)))
                (.skip)))
            (.seq
              (.seq
                (.ops [⟨some 13, .move (.t 6), none⟩] false)
                (.cond (.t 13)
                  (.seq
                    (.ops [⟨some 4, .move (.c (.int .i64 1)), none⟩] false)
                    (.ret))
                  (.skip)))
              (.seq
                (.seq
                  (.ops [⟨some 14, .move (.t 0), none⟩, 
                      ⟨some 15, .move (.t 1), none⟩, 
                      ⟨some 16, .bin .lss (.t 14) (.t 15), none⟩] false)
                  (.cond (.t 16)
                    (.seq
                      (.ops [⟨some 4, .move (.c (.int .i64 (-1))), none⟩] false)
                      (.ret))
                    (.skip)))
                (.seq
                  (.seq
                    (.ops [⟨some 17, .move (.t 0), none⟩, 
                        ⟨some 18, .move (.t 1), none⟩, 
                        ⟨some 19, .bin .gtr (.t 17) (.t 18), none⟩] false)
                    (.cond (.t 19)
                      (.seq
                        (.ops [⟨some 4, .move (.c (.int .i64 1)), none⟩] false)
                        (.ret))
                      (.skip)))
                  (.seq
                    (.ops [⟨some 4, .move (.c (.int .i64 0)), none⟩] false)
                    (.ret)))))))) }

/- slices.CompareFunc[[]sequitur/api.Term,[]sequitur/api.Term,sequitur/api.Term,sequitur/api.Term] -/
def L36_0 : AC :=
  .seq
    (.ops [⟨some 14, .bin .lss (.t 13) (.t 12), none⟩] false)
    (.seq
      (.cond (.t 14)
        (.skip)
        (.exit 0))
      (.seq
        (.block 1
          (.seq
            (.ops [⟨some 15, .move (.t 13), none⟩, 
                ⟨some 16, .idxA 4 (.t 11) (.t 13), none⟩, 
                ⟨some 17, .load true 4 (.t 16), none⟩, 
                ⟨some 8, .alloc 24 [.int .i64 0, .str ⟨#[]⟩, .int .i64 0, .fsl 4 []], none⟩, 
                ⟨some 7, .move (.t 15), none⟩, 
                ⟨none, .store 4 (.t 8) (.t 17), none⟩] false)
            (.seq
              (.seq
                (.ops [⟨some 18, .move (.t 7), none⟩, 
                    ⟨some 19, .move (.t 1), none⟩, 
                    ⟨some 20, .len (.t 19), none⟩, 
                    ⟨some 21, .bin .geq (.t 18) (.t 20), none⟩] false)
                (.cond (.t 21)
                  (.seq
                    (.ops [⟨some 6, .move (.c (.int .i64 1)), none⟩] false)
                    (.ret))
                  (.skip)))
              (.seq
                (.ops [⟨some 22, .move (.t 1), none⟩, 
                    ⟨some 23, .move (.t 7), none⟩, 
                    ⟨some 24, .idxA 4 (.t 22) (.t 23), none⟩, 
                    ⟨some 25, .load true 4 (.t 24), none⟩, 
                    ⟨some 9, .alloc 24 [.int .i64 0, .str ⟨#[]⟩, .int .i64 0, .fsl 4 []], none⟩, 
                    ⟨none, .store 4 (.t 9) (.t 25), none⟩] false)
                (.seq
                  (.ops [⟨some 26, .move (.t 2), none⟩, 
                      ⟨some 27, .load true 4 (.t 8), none⟩, 
                      ⟨some 28, .load true 4 (.t 9), none⟩, 
                      ⟨some 29, .callv (.t 26) [.t 27, .t 28], none⟩, 
                      ⟨some 10, .move (.t 29), none⟩] false)
                  (.seq
                    (.ops [⟨some 30, .move (.t 10), none⟩, 
                        ⟨some 31, .bin .neq (.t 30) (.c (.int .i64 0)), none⟩] false)
                    (.cond (.t 31)
                      (.seq
                        (.ops [⟨some 32, .move (.t 10), none⟩, 
                            ⟨some 6, .move (.t 32), none⟩] false)
                        (.ret))
                      (.skip))))))))
        (.ops [⟨some 33, .bin .add (.t 13) (.c (.int .i64 1)), none⟩, 
            ⟨some 13, .move (.t 33), none⟩] false)))
def F36 : AF :=
  { ntmps := 39, results := [.tmp 6], pure := true, body :=
    .seq
      (.ops [⟨some 6, .move (.c (.int .i64 0)), none⟩] false)
      (.seq
        (.seq
          (.ops [⟨some 11, .move (.t 0), none⟩, 
              ⟨some 12, .len (.t 11), none⟩, 
              ⟨some 13, .move (.c (.int .i64 0)), none⟩] false)
          (.block 0
            (.loop L36_0)))
        (.seq
          (.seq
            (.ops [⟨some 34, .move (.t 0), none⟩, 
                ⟨some 35, .len (.t 34), none⟩, 
                ⟨some 36, .move (.t 1), none⟩, 
                ⟨some 37, .len (.t 36), none⟩, 
                ⟨some 38, .bin .lss (.t 35) (.t 37), none⟩] false)
            (.cond (.t 38)
              (.seq
                (.ops [⟨some 6, .move (.c (.int .i64 (-1))), none⟩] false)
                (.ret))
              (.skip)))
          (.seq
            (.ops [⟨some 6, .move (.c (.int .i64 0)), none⟩] false)
            (.ret)))) }

/- sequitur/sequiturref07.number -/
def F37 : AF :=
  { ntmps := 7, results := [.tmp 4], pure := true, body :=
    .seq
      (.ops [⟨some 4, .move (.c (.int .i64 0)), none⟩] false)
      (.seq
        (.seq
          (.ops [⟨some 5, .move (.t 0), none⟩] false)
          (.cond (.t 5)
            (.seq
              (.ops [⟨some 4, .move (.c (.int .i64 (-1))), none⟩] false)
              (.ret))
            (.skip)))
        (.seq
          (.seq
            (.ops [⟨some 6, .move (.t 1), none⟩] false)
            (.cond (.t 6)
              (.seq
                (.ops [⟨some 4, .move (.c (.int .i64 1)), none⟩] false)
                (.ret))
              (.skip)))
          (.seq
            (.ops [⟨some 4, .move (.c (.int .i64 0)), none⟩] false)
            (.ret)))) }

/- sequitur/sequiturref07.All -/
def L38_0 : AC :=
  .seq
    (.seq
      (.ops [⟨some 7, .move (.t 4), none⟩, 
          ⟨some 8, .fieldA 3 (.t 1), none⟩, 
          ⟨some 9, .load false 1 (.t 8), none⟩, 
          ⟨some 10, .len (.t 9), none⟩, 
          ⟨some 11, .bin .lss (.t 7) (.t 10), none⟩] false)
      (.cond (.t 11)
        (.skip)
        (.exit 0)))
    (.seq
      (.block 1
        (.ops [⟨some 14, .move (.t 3), none⟩, 
            ⟨some 15, .fieldA 3 (.t 1), none⟩, 
            ⟨some 16, .load false 1 (.t 15), none⟩, 
            ⟨some 17, .move (.t 4), none⟩, 
            ⟨some 18, .idxA 4 (.t 16) (.t 17), none⟩, 
            ⟨some 19, .load true 4 (.t 18), none⟩, 
            ⟨some 20, .call 38 [.t 19], none⟩, 
            ⟨some 21, .append 24 4 56 (.t 14) (.t 20), none⟩, 
            ⟨some 3, .move (.t 21), none⟩] false))
      (.ops [⟨some 12, .move (.t 4), none⟩, 
          ⟨some 13, .bin .add (.t 12) (.c (.int .i64 1)), none⟩, 
          ⟨some 4, .move (.t 13), none⟩] false))
def F38 : AF :=
  { ntmps := 23, results := [.tmp 2], pure := true, body :=
    .seq
      (.ops [⟨some 1, .box 24 (.t 0), none⟩, 
          ⟨some 2, .move (.c (.fsl 4 [])), none⟩] false)
      (.seq
        (.ops [⟨some 5, .load true 4 (.t 1), none⟩, 
            ⟨some 6, .buildSl 4 [.int .i64 0, .str ⟨#[]⟩, .int .i64 0, .fsl 4 []] 1 [(0, .t 5)], none⟩, 
            ⟨some 3, .move (.t 6), none⟩] false)
        (.seq
          (.seq
            (.ops [⟨some 4, .move (.c (.int .i64 0)), none⟩] false)
            (.block 0
              (.loop L38_0)))
          (.seq
            (.ops [⟨some 22, .move (.t 3), none⟩, 
                ⟨some 2, .move (.t 22), none⟩] false)
            (.ret)))) }

/- sequitur/term.all -/
def F39 : AF :=
  { ntmps := 4, results := [.tmp 2], pure := true, body :=
    .seq
      (.ops [⟨some 1, .box 24 (.t 0), none⟩, 
          ⟨some 2, .move (.c (.nilf)), none⟩] false)
      (.seq
        (.ops [⟨some 3, .mkfn (.func 52) [] [.t 1], none⟩, 
            ⟨some 2, .move (.t 3), none⟩] false)
        (.ret)) }

/- slices.ContainsFunc[[]sequitur/api.Term,sequitur/api.Term] -/
def F40 : AF :=
  { ntmps := 9, results := [.tmp 4], pure := true, body :=
    .seq
      (.ops [⟨some 4, .move (.c (.bool false)), none⟩] false)
      (.seq
        (.ops [⟨some 5, .move (.t 0), none⟩, 
            ⟨some 6, .move (.t 1), none⟩, 
            ⟨some 7, .call 54 [.t 5, .t 6], none⟩, 
            ⟨some 8, .bin .geq (.t 7) (.c (.int .i64 0)), none⟩, 
            ⟨some 4, .move (.t 8), none⟩] false)
        (.ret)) }

/- sequitur/term.is -/
def F41 : AF :=
  { ntmps := 4, results := [.tmp 2], pure := true, body :=
    .seq
      (.ops [⟨some 1, .box 24 (.t 0), none⟩, 
          ⟨some 2, .move (.c (.nilf)), none⟩] false)
      (.seq
        (.ops [⟨some 3, .mkfn (.func 55) [] [.t 1], none⟩, 
            ⟨some 2, .move (.t 3), none⟩] false)
        (.ret)) }

/- sequitur/term.with -/
def L42_0 : AC :=
  .seq
    (.ops [⟨some 12, .bin .lss (.t 11) (.t 10), none⟩] false)
    (.seq
      (.cond (.t 12)
        (.skip)
        (.exit 0))
      (.seq
        (.block 1
          (.seq
            (.ops [⟨some 13, .idxA 4 (.t 9) (.t 11), none⟩, 
                ⟨some 14, .load true 4 (.t 13), none⟩, 
                ⟨some 7, .alloc 24 [.int .i64 0, .str ⟨#[]⟩, .int .i64 0, .fsl 4 []], none⟩, 
                ⟨none, .store 4 (.t 7) (.t 14), none⟩] false)
            (.ops [⟨some 15, .move (.t 5), none⟩, 
                ⟨some 16, .move (.t 1), none⟩, 
                ⟨some 17, .load true 4 (.t 7), none⟩, 
                ⟨some 18, .callv (.t 16) [.t 17], none⟩, 
                ⟨some 19, .buildSl 4 [.int .i64 0, .str ⟨#[]⟩, .int .i64 0, .fsl 4 []] 1 [(0, .t 18)], none⟩, 
                ⟨some 20, .append 24 4 56 (.t 15) (.t 19), none⟩, 
                ⟨some 5, .move (.t 20), none⟩] false)))
        (.ops [⟨some 21, .bin .add (.t 11) (.c (.int .i64 1)), none⟩, 
            ⟨some 11, .move (.t 21), none⟩] false)))
def F42 : AF :=
  { ntmps := 25, results := [.cell 4 true 4], pure := true, body :=
    .seq
      (.ops [⟨some 2, .box 24 (.t 0), none⟩, 
          ⟨some 4, .alloc 24 [.int .i64 0, .str ⟨#[]⟩, .int .i64 0, .fsl 4 []], none⟩] false)
      (.seq
        (.ops [⟨some 5, .move (.c (.fsl 4 [])), none⟩] false)
        (.seq
          (.seq
            (.ops [⟨some 8, .fieldA 3 (.t 2), none⟩, 
                ⟨some 9, .load false 1 (.t 8), none⟩, 
                ⟨some 10, .len (.t 9), none⟩, 
                ⟨some 11, .move (.c (.int .i64 0)), none⟩] false)
            (.block 0
              (.loop L42_0)))
          (.seq
            (.ops [⟨some 22, .move (.t 5), none⟩, 
                ⟨some 23, .fieldA 3 (.t 2), none⟩, 
                ⟨none, .store 1 (.t 23) (.t 22), none⟩] false)
            (.seq
              (.ops [⟨some 24, .load true 4 (.t 2), none⟩, 
                  ⟨none, .store 4 (.t 4) (.t 24), none⟩] false)
              (.ret))))) }

/- sequitur/term.Replace$1 -/
def F43 : AF :=
  { ntmps := 9, results := [.cell 4 true 4], pure := true, body :=
    .seq
      (.ops [⟨some 3, .box 24 (.t 0), none⟩, 
          ⟨some 4, .alloc 24 [.int .i64 0, .str ⟨#[]⟩, .int .i64 0, .fsl 4 []], none⟩] false)
      (.seq
        (.ops [⟨some 5, .load true 4 (.t 3), none⟩, 
            ⟨some 6, .load true 4 (.t 1), none⟩, 
            ⟨some 7, .load true 4 (.t 2), none⟩, 
            ⟨some 8, .call 25 [.t 5, .t 6, .t 7], none⟩, 
            ⟨none, .store 4 (.t 4) (.t 8), none⟩] false)
        (.ret)) }

/- sequitur/sequiturref07.With -/
def F44 : AF :=
  { ntmps := 8, results := [.cell 4 true 4], pure := true, body :=
    .seq
      (.ops [⟨some 2, .box 24 (.t 0), none⟩, 
          ⟨some 4, .alloc 24 [.int .i64 0, .str ⟨#[]⟩, .int .i64 0, .fsl 4 []], none⟩] false)
      (.seq
        (.ops [⟨some 5, .move (.t 1), none⟩, 
            ⟨some 6, .fieldA 3 (.t 2), none⟩, 
            ⟨none, .store 1 (.t 6) (.t 5), none⟩] false)
        (.seq
          (.ops [⟨some 7, .load true 4 (.t 2), none⟩, 
              ⟨none, .store 4 (.t 4) (.t 7), none⟩] false)
          (.ret))) }

/- sequitur/sequiturref07.Put -/
def L47_0 : AC :=
  .seq
    (.seq
      (.ops [⟨some 8, .move (.t 7), none⟩, 
          ⟨some 9, .move (.t 0), none⟩, 
          ⟨some 10, .len (.t 9), none⟩, 
          ⟨some 11, .bin .lss (.t 8) (.t 10), none⟩] false)
      (.cond (.t 11)
        (.skip)
        (.exit 0)))
    (.seq
      (.block 1
        (.seq
          (.seq
            (.ops [⟨some 14, .move (.t 0), none⟩, 
                ⟨some 15, .move (.t 7), none⟩, 
                ⟨some 16, .idxA 1 (.t 14) (.t 15), none⟩, 
                ⟨some 17, .load false 1 (.t 16), none⟩, 
                ⟨some 18, .move (.t 1), none⟩, 
                ⟨some 19, .bin .geq (.t 17) (.t 18), none⟩, 
                ⟨some 20, .move (.t 19), none⟩, 
                ⟨some 21, .move (.t 6), some (20, true)⟩, 
                ⟨some 22, .not (.t 21), some (20, true)⟩, 
                ⟨some 23, .pick (.t 20) (.t 22) (.c (.bool false)), none⟩] false)
            (.cond (.t 23)
              (.seq
                (.ops [⟨some 24, .move (.t 5), none⟩, 
                    ⟨some 25, .move (.t 1), none⟩, 
                    ⟨some 26, .buildSl 1 [.str ⟨#[]⟩] 1 [(0, .t 25)], none⟩, 
                    ⟨some 27, .append 9 1 16 (.t 24) (.t 26), none⟩, 
                    ⟨some 5, .move (.t 27), none⟩] false)
                (.ops [⟨some 6, .move (.c (.bool true)), none⟩] false))
              (.skip)))
          (.seq
            (.ops [⟨some 28, .move (.t 0), none⟩, 
                ⟨some 29, .move (.t 7), none⟩, 
                ⟨some 30, .idxA 1 (.t 28) (.t 29), none⟩, 
                ⟨some 31, .load false 1 (.t 30), none⟩, 
                ⟨some 32, .move (.t 1), none⟩, 
                ⟨some 33, .bin .neq (.t 31) (.t 32), none⟩] false)
            (.cond (.t 33)
              (.ops [⟨some 34, .move (.t 5), none⟩, 
                  ⟨some 35, .move (.t 0), none⟩, 
                  ⟨some 36, .move (.t 7), none⟩, 
                  ⟨some 37, .idxA 1 (.t 35) (.t 36), none⟩, 
                  ⟨some 38, .load false 1 (.t 37), none⟩, 
                  ⟨some 39, .buildSl 1 [.str ⟨#[]⟩] 1 [(0, .t 38)], none⟩, 
                  ⟨some 40, .append 9 1 16 (.t 34) (.t 39), none⟩, 
                  ⟨some 5, .move (.t 40), none⟩] false)
              (.skip)))))
      (.ops [⟨some 12, .move (.t 7), none⟩, 
          ⟨some 13, .bin .add (.t 12) (.c (.int .i64 1)), none⟩, 
          ⟨some 7, .move (.t 13), none⟩] false))
def F47 : AF :=
  { ntmps := 48, results := [.tmp 4], pure := true, body :=
    .seq
      (.ops [⟨some 4, .move (.c (.fsl 1 [])), none⟩] false)
      (.seq
        (.ops [⟨some 5, .move (.c (.fsl 1 [])), none⟩] false)
        (.seq
          (.ops [⟨some 6, .move (.c (.bool false)), none⟩] false)
          (.seq
            (.seq
              (.ops [⟨some 7, .move (.c (.int .i64 0)), none⟩] false)
              (.block 0
                (.loop L47_0)))
            (.seq
              (.seq
                (.ops [⟨some 41, .move (.t 6), none⟩, 
                    ⟨some 42, .not (.t 41), none⟩] false)
                (.cond (.t 42)
                  (.ops [⟨some 43, .move (.t 5), none⟩, 
                      ⟨some 44, .move (.t 1), none⟩, 
                      ⟨some 45, .buildSl 1 [.str ⟨#[]⟩] 1 [(0, .t 44)], none⟩, 
                      ⟨some 46, .append 9 1 16 (.t 43) (.t 45), none⟩, 
                      ⟨some 5, .move (.t 46), none⟩] false)
                  (.skip)))
              (.seq
                (.ops [⟨some 47, .move (.t 5), none⟩, 
                    ⟨some 4, .move (.t 47), none⟩] false)
                (.ret)))))) }

/- sequitur/term.depth -/
def L48_0 : AC :=
  .seq
    (.ops [⟨some 14, .bin .lss (.t 13) (.t 12), none⟩] false)
    (.seq
      (.cond (.t 14)
        (.skip)
        (.exit 0))
      (.seq
        (.block 1
          (.seq
            (.ops [⟨some 15, .idxA 4 (.t 11) (.t 13), none⟩, 
                ⟨some 16, .load true 4 (.t 15), none⟩, 
                ⟨some 7, .alloc 24 [.int .i64 0, .str ⟨#[]⟩, .int .i64 0, .fsl 4 []], none⟩, 
                ⟨none, .store 4 (.t 7) (.t 16), none⟩] false)
            (.ops [⟨some 17, .move (.t 5), none⟩, 
                ⟨some 18, .load true 4 (.t 7), none⟩, 
                ⟨some 19, .move (.t 1), none⟩, 
                ⟨some 20, .bin .sub (.t 19) (.c (.int .i64 1)), none⟩, 
                ⟨some 21, .call 48 [.t 18, .t 20], none⟩, 
                ⟨some 22, .max2 (.t 17) (.t 21), none⟩, 
                ⟨some 5, .move (.t 22), none⟩] false)))
        (.ops [⟨some 23, .bin .add (.t 13) (.c (.int .i64 1)), none⟩, 
            ⟨some 13, .move (.t 23), none⟩] false)))
def F48 : AF :=
  { ntmps := 26, results := [.tmp 4], pure := true, body :=
    .seq
      (.ops [⟨some 2, .box 24 (.t 0), none⟩, 
          ⟨some 4, .move (.c (.int .i64 0)), none⟩] false)
      (.seq
        (.seq
          (.ops [⟨some 8, .move (.t 1), none⟩, 
              ⟨some 9, .bin .leq (.t 8) (.c (.int .i64 1)), none⟩] false)
          (.cond (.t 9)
            (.seq
              (.ops [⟨some 4, .move (.c (.int .i64 1)), none⟩] false)
              (.ret))
            (.skip)))
        (.seq
          (.ops [⟨some 5, .move (.c (.int .i64 0)), none⟩] false)
          (.seq
            (.seq
              (.ops [⟨some 10, .fieldA 3 (.t 2), none⟩, 
                  ⟨some 11, .load false 1 (.t 10), none⟩, 
                  ⟨some 12, .len (.t 11), none⟩, 
                  ⟨some 13, .move (.c (.int .i64 0)), none⟩] false)
              (.block 0
                (.loop L48_0)))
            (.seq
              (.ops [⟨some 24, .move (.t 5), none⟩, 
                  ⟨some 25, .bin .add (.t 24) (.c (.int .i64 1)), none⟩, 
                  ⟨some 4, .move (.t 25), none⟩] false)
              (.ret))))) }

/- cmp.isNaN[int] -/
def F49 : AF :=
  { ntmps := 6, results := [.tmp 2], pure := true, body :=
    .seq
      (.ops [⟨some 2, .move (.c (.bool false)), none⟩] false)
      (.seq
        (.ops [⟨some 3, .move (.t 0), none⟩, 
            ⟨some 4, .move (.t 0), none⟩, 
            ⟨some 5, .bin .neq (.t 3) (.t 4), none⟩, 
            ⟨some 2, .move (.t 5), none⟩] false)
        (.ret)) }

/- cmp.isNaN[int64] -/
def F50 : AF :=
  { ntmps := 6, results := [.tmp 2], pure := true, body :=
    .seq
      (.ops [⟨some 2, .move (.c (.bool false)), none⟩] false)
      (.seq
        (.ops [⟨some 3, .move (.t 0), none⟩, 
            ⟨some 4, .move (.t 0), none⟩, 
            ⟨some 5, .bin .neq (.t 3) (.t 4), none⟩, 
            ⟨some 2, .move (.t 5), none⟩] false)
        (.ret)) }

/- cmp.isNaN[string] -/
def F51 : AF :=
  { ntmps := 6, results := [.tmp 2], pure := true, body :=
    .seq
      (.ops [⟨some 2, .move (.c (.bool false)), none⟩] false)
      (.seq
        (.ops [⟨some 3, .move (.t 0), none⟩, 
            ⟨some 4, .move (.t 0), none⟩, 
            ⟨some 5, .bin .neq (.t 3) (.t 4), none⟩, 
            ⟨some 2, .move (.t 5), none⟩] false)
        (.ret)) }

/- sequitur/term.all$1 -/
def F52 : AF :=
  { ntmps := 6, results := [], pure := false, body :=
    .ops [⟨some 3, .load true 4 (.t 1), none⟩, 
        ⟨some 4, .move (.t 0), none⟩, 
        ⟨some 5, .call 53 [.t 3, .t 4], none⟩] false }

/- sequitur/term.walk -/
def L53_0 : AC :=
  .seq
    (.ops [⟨some 15, .bin .lss (.t 14) (.t 13), none⟩] false)
    (.seq
      (.cond (.t 15)
        (.skip)
        (.exit 0))
      (.seq
        (.block 1
          (.seq
            (.ops [⟨some 16, .idxA 4 (.t 12) (.t 14), none⟩, 
                ⟨some 17, .load true 4 (.t 16), none⟩, 
                ⟨some 6, .alloc 24 [.int .i64 0, .str ⟨#[]⟩, .int .i64 0, .fsl 4 []], none⟩, 
                ⟨none, .store 4 (.t 6) (.t 17), none⟩] false)
            (.seq
              (.ops [⟨some 18, .load true 4 (.t 6), none⟩, 
                  ⟨some 19, .move (.t 1), none⟩, 
                  ⟨some 20, .call 53 [.t 18, .t 19], none⟩, 
                  ⟨some 21, .not (.t 20), none⟩] false)
              (.cond (.t 21)
                (.seq
                  (.ops [⟨some 4, .move (.c (.bool false)), none⟩] false)
                  (.ret))
                (.skip)))))
        (.ops [⟨some 22, .bin .add (.t 14) (.c (.int .i64 1)), none⟩, 
            ⟨some 14, .move (.t 22), none⟩] false)))
def F53 : AF :=
  { ntmps := 23, results := [.tmp 4], pure := false, body :=
    .seq
      (.ops [⟨some 2, .box 24 (.t 0), none⟩, 
          ⟨some 4, .move (.c (.bool false)), none⟩] false)
      (.seq
        (.seq
          (.ops [⟨some 7, .move (.t 1), none⟩, 
              ⟨some 8, .load true 4 (.t 2), none⟩, 
              ⟨some 9, .callv (.t 7) [.t 8], none⟩, 
              ⟨some 10, .not (.t 9), none⟩] false)
          (.cond (.t 10)
            (.seq
              (.ops [⟨some 4, .move (.c (.bool false)), none⟩] false)
              (.ret))
            (.skip)))
        (.seq
          (.seq
            (.ops [⟨some 11, .fieldA 3 (.t 2), none⟩, 
                ⟨some 12, .load false 1 (.t 11), none⟩, 
                ⟨some 13, .len (.t 12), none⟩, 
                ⟨some 14, .move (.c (.int .i64 0)), none⟩] false)
            (.block 0
              (.loop L53_0)))
          (.seq
            (.ops [⟨some 4, .move (.c (.bool true)), none⟩] false)
            (.ret)))) }

/- slices.IndexFunc[[]sequitur/api.Term,sequitur/api.Term] -/
def L54_0 : AC :=
  .seq
    (.ops [⟨some 9, .bin .lss (.t 8) (.t 7), none⟩] false)
    (.seq
      (.cond (.t 9)
        (.skip)
        (.exit 0))
      (.seq
        (.block 1
          (.seq
            (.ops [⟨some 10, .move (.t 8), none⟩, 
                ⟨some 5, .move (.t 10), none⟩] false)
            (.seq
              (.ops [⟨some 11, .move (.t 1), none⟩, 
                  ⟨some 12, .move (.t 0), none⟩, 
                  ⟨some 13, .move (.t 5), none⟩, 
                  ⟨some 14, .idxA 4 (.t 12) (.t 13), none⟩, 
                  ⟨some 15, .load true 4 (.t 14), none⟩, 
                  ⟨some 16, .callv (.t 11) [.t 15], none⟩] false)
              (.cond (.t 16)
                (.seq
                  (.ops [⟨some 17, .move (.t 5), none⟩, 
                      ⟨some 4, .move (.t 17), none⟩] false)
                  (.ret))
                (.skip)))))
        (.ops [⟨some 18, .bin .add (.t 8) (.c (.int .i64 1)), none⟩, 
            ⟨some 8, .move (.t 18), none⟩] false)))
def F54 : AF :=
  { ntmps := 19, results := [.tmp 4], pure := true, body :=
    .seq
      (.ops [⟨some 4, .move (.c (.int .i64 0)), none⟩] false)
      (.seq
        (.seq
          (.ops [⟨some 6, .move (.t 0), none⟩, 
              ⟨some 7, .len (.t 6), none⟩, 
              ⟨some 8, .move (.c (.int .i64 0)), none⟩] false)
          (.block 0
            (.loop L54_0)))
        (.seq
          (.ops [⟨some 4, .move (.c (.int .i64 (-1))), none⟩] false)
          (.ret))) }

/- sequitur/term.is$1 -/
def F55 : AF :=
  { ntmps := 7, results := [.tmp 3], pure := true, body :=
    .seq
      (.ops [⟨some 2, .box 24 (.t 0), none⟩, 
          ⟨some 3, .move (.c (.bool false)), none⟩] false)
      (.seq
        (.ops [⟨some 4, .load true 4 (.t 1), none⟩, 
            ⟨some 5, .load true 4 (.t 2), none⟩, 
            ⟨some 6, .call 14 [.t 4, .t 5], none⟩, 
            ⟨some 3, .move (.t 6), none⟩] false)
        (.ret)) }

def T : Tab
  | 3 => some F3
  | 4 => some F4
  | 5 => some F5
  | 6 => some F6
  | 7 => some F7
  | 8 => some F8
  | 9 => some F9
  | 10 => some F10
  | 11 => some F11
  | 12 => some F12
  | 13 => some F13
  | 14 => some F14
  | 15 => some F15
  | 16 => some F16
  | 17 => some F17
  | 18 => some F18
  | 19 => some F19
  | 20 => some F20
  | 21 => some F21
  | 22 => some F22
  | 23 => some F23
  | 24 => some F24
  | 25 => some F25
  | 26 => some F26
  | 27 => some F27
  | 28 => some F28
  | 29 => some F29
  | 30 => some F30
  | 31 => some F31
  | 32 => some F32
  | 33 => some F33
  | 34 => some F34
  | 35 => some F35
  | 36 => some F36
  | 37 => some F37
  | 38 => some F38
  | 39 => some F39
  | 40 => some F40
  | 41 => some F41
  | 42 => some F42
  | 43 => some F43
  | 44 => some F44
  | 47 => some F47
  | 48 => some F48
  | 49 => some F49
  | 50 => some F50
  | 51 => some F51
  | 52 => some F52
  | 53 => some F53
  | 54 => some F54
  | 55 => some F55
  | _ => none

end Go.Proofs.Ytcoonnbkmklenaa.A
