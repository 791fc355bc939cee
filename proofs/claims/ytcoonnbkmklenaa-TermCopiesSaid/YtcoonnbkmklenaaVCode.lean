/- The functions that the seat reaches, in the interpreter's own code (by gen.py from the loaded program; checked against it in the text behind). -/
import Derived.Test.YtcoonnbkmklenaaVAbs
namespace Go.Proofs.Ytcoonnbkmklenaa.A
open Go

/- sequitur/sequiturlaw07.TermCopies -/
def F6 : AF :=
  { ntmps := 26, results := [.tmp 2], pure := true, body :=
    .seq
      (.ops [⟨some 1, .box 24 (.t 0), none⟩, 
          ⟨some 2, .move (.c (.bool false)), none⟩] false)
      (.seq
        (.seq
          (.ops [⟨some 5, .load true 4 (.t 1), none⟩, 
              ⟨some 6, .buildSl 4 [.int .i64 0, .str ⟨#[]⟩, .int .i64 0, .fsl 4 []] 1 [(0, .t 5)], none⟩, 
              ⟨some 7, .call 16 [.t 6], none⟩, 
              ⟨some 8, .not (.t 7), none⟩] false)
          (.cond (.t 8)
            (.seq
              (.ops [⟨some 9, .call 11 [], none⟩, 
                  ⟨some 2, .move (.t 9), none⟩] false)
              (.ret))
            (.skip)))
        (.seq
          (.ops [⟨some 10, .load true 4 (.t 1), none⟩, 
              ⟨some 11, .call 22 [.t 10], none⟩, 
              ⟨some 3, .alloc 24 [.int .i64 0, .str ⟨#[]⟩, .int .i64 0, .fsl 4 []], none⟩, 
              ⟨none, .store 4 (.t 3) (.t 11), none⟩] false)
          (.seq
            (.ops [⟨some 12, .load true 4 (.t 1), none⟩, 
                ⟨some 13, .call 23 [.t 12], none⟩, 
                ⟨some 4, .alloc 24 [.int .i64 0, .str ⟨#[]⟩, .int .i64 0, .fsl 4 []], none⟩, 
                ⟨none, .store 4 (.t 4) (.t 13), none⟩] false)
            (.seq
              (.seq
                (.ops [⟨some 14, .load true 4 (.t 4), none⟩, 
                    ⟨some 15, .load true 4 (.t 3), none⟩, 
                    ⟨some 16, .call 15 [.t 14, .t 15], none⟩, 
                    ⟨some 17, .not (.t 16), none⟩] false)
                (.cond (.t 17)
                  (.seq
                    (.ops [⟨some 2, .move (.c (.bool false)), none⟩] false)
                    (.ret))
                  (.skip)))
              (.seq
                (.ops [⟨some 18, .load true 4 (.t 4), none⟩, 
                    ⟨some 19, .call 24 [.t 18], none⟩] false)
                (.seq
                  (.ops [⟨some 20, .load true 4 (.t 1), none⟩, 
                      ⟨some 21, .load true 4 (.t 3), none⟩, 
                      ⟨some 22, .call 15 [.t 20, .t 21], none⟩, 
                      ⟨some 23, .move (.t 22), none⟩, 
                      ⟨some 24, .call 11 [], some (23, true)⟩, 
                      ⟨some 25, .pick (.t 23) (.t 24) (.c (.bool false)), none⟩, 
                      ⟨some 2, .move (.t 25), none⟩] false)
                  (.ret))))))) }

/- sequitur/sequiturbase.Size -/
def L10_0 : AC :=
  .seq
    (.seq
      (.ops [⟨some 7, .move (.t 6), none⟩, 
          ⟨some 8, .fieldA 3 (.t 2), none⟩, 
          ⟨some 9, .load false 1 (.t 8), none⟩, 
          ⟨some 10, .len (.t 9), none⟩, 
          ⟨some 11, .bin .lss (.t 7) (.t 10), none⟩, 
          ⟨some 12, .move (.t 11), none⟩, 
          ⟨some 13, .move (.t 5), some (12, true)⟩, 
          ⟨some 14, .move (.t 1), some (12, true)⟩, 
          ⟨some 15, .bin .leq (.t 13) (.t 14), some (12, true)⟩, 
          ⟨some 16, .pick (.t 12) (.t 15) (.c (.bool false)), none⟩] false)
      (.cond (.t 16)
        (.skip)
        (.exit 0)))
    (.seq
      (.block 1
        (.ops [⟨some 19, .move (.t 5), none⟩, 
            ⟨some 20, .fieldA 3 (.t 2), none⟩, 
            ⟨some 21, .load false 1 (.t 20), none⟩, 
            ⟨some 22, .move (.t 6), none⟩, 
            ⟨some 23, .idxA 4 (.t 21) (.t 22), none⟩, 
            ⟨some 24, .load true 4 (.t 23), none⟩, 
            ⟨some 25, .move (.t 1), none⟩, 
            ⟨some 26, .move (.t 5), none⟩, 
            ⟨some 27, .bin .sub (.t 25) (.t 26), none⟩, 
            ⟨some 28, .call 10 [.t 24, .t 27], none⟩, 
            ⟨some 29, .bin .add (.t 19) (.t 28), none⟩, 
            ⟨some 5, .move (.t 29), none⟩] false))
      (.ops [⟨some 17, .move (.t 6), none⟩, 
          ⟨some 18, .bin .add (.t 17) (.c (.int .i64 1)), none⟩, 
          ⟨some 6, .move (.t 18), none⟩] false))
def F10 : AF :=
  { ntmps := 31, results := [.tmp 4], pure := true, body :=
    .seq
      (.ops [⟨some 2, .box 24 (.t 0), none⟩, 
          ⟨some 4, .move (.c (.int .i64 0)), none⟩] false)
      (.seq
        (.ops [⟨some 5, .move (.c (.int .i64 1)), none⟩] false)
        (.seq
          (.seq
            (.ops [⟨some 6, .move (.c (.int .i64 0)), none⟩] false)
            (.block 0
              (.loop L10_0)))
          (.seq
            (.ops [⟨some 30, .move (.t 5), none⟩, 
                ⟨some 4, .move (.t 30), none⟩] false)
            (.ret)))) }

/- sequitur/sequiturlaw07.goes -/
def F11 : AF :=
  { ntmps := 32, results := [.tmp 0], pure := true, body :=
    .seq
      (.ops [⟨some 0, .move (.c (.bool false)), none⟩] false)
      (.seq
        (.ops [⟨some 2, .build [.int .i64 0, .str ⟨#[]⟩, .int .i64 0, .fsl 4 []] [(0, 1, .c (.int .i64 1)), (1, 1, .c (.str ⟨#[120]⟩))], none⟩, 
            ⟨some 3, .build [.int .i64 0, .str ⟨#[]⟩, .int .i64 0, .fsl 4 []] [(0, 1, .c (.int .i64 4)), (2, 1, .c (.int .i64 3))], none⟩, 
            ⟨some 4, .buildSl 4 [.int .i64 0, .str ⟨#[]⟩, .int .i64 0, .fsl 4 []] 2 [(0, .t 2), (1, .t 3)], none⟩, 
            ⟨some 5, .build [.int .i64 0, .str ⟨#[]⟩, .int .i64 0, .fsl 4 []] [(0, 1, .c (.int .i64 3)), (1, 1, .c (.str ⟨#[102]⟩)), (3, 1, .t 4)], none⟩, 
            ⟨some 1, .alloc 24 [.int .i64 0, .str ⟨#[]⟩, .int .i64 0, .fsl 4 []], none⟩, 
            ⟨none, .store 4 (.t 1) (.t 5), none⟩] false)
        (.seq
          (.ops [⟨some 6, .load true 4 (.t 1), none⟩, 
              ⟨some 7, .call 30 [.t 6], none⟩, 
              ⟨some 8, .bin .eql (.t 7) (.c (.int .i64 3)), none⟩, 
              ⟨some 9, .move (.t 8), none⟩, 
              ⟨some 10, .load true 4 (.t 1), some (9, true)⟩, 
              ⟨some 11, .call 31 [.t 10], some (9, true)⟩, 
              ⟨some 12, .bin .eql (.t 11) (.c (.int .i64 2)), some (9, true)⟩, 
              ⟨some 13, .pick (.t 9) (.t 12) (.c (.bool false)), none⟩, 
              ⟨some 14, .move (.t 13), none⟩, 
              ⟨some 15, .load true 4 (.t 1), some (14, true)⟩, 
              ⟨some 16, .call 19 [.t 15], some (14, true)⟩, 
              ⟨some 17, .len (.t 16), some (14, true)⟩, 
              ⟨some 18, .bin .eql (.t 17) (.c (.int .i64 3)), some (14, true)⟩, 
              ⟨some 19, .pick (.t 14) (.t 18) (.c (.bool false)), none⟩, 
              ⟨some 20, .move (.t 19), none⟩, 
              ⟨some 21, .fieldA 3 (.t 1), some (20, true)⟩, 
              ⟨some 22, .load false 1 (.t 21), some (20, true)⟩, 
              ⟨some 23, .idxA 4 (.t 22) (.c (.int .i64 1)), some (20, true)⟩, 
              ⟨some 24, .load true 4 (.t 23), some (20, true)⟩, 
              ⟨some 25, .fieldA 3 (.t 1), some (20, true)⟩, 
              ⟨some 26, .load false 1 (.t 25), some (20, true)⟩, 
              ⟨some 27, .idxA 4 (.t 26) (.c (.int .i64 0)), some (20, true)⟩, 
              ⟨some 28, .load true 4 (.t 27), some (20, true)⟩, 
              ⟨some 29, .call 12 [.t 24, .t 28], some (20, true)⟩, 
              ⟨some 30, .bin .eql (.t 29) (.c (.int .i64 1)), some (20, true)⟩, 
              ⟨some 31, .pick (.t 20) (.t 30) (.c (.bool false)), none⟩, 
              ⟨some 0, .move (.t 31), none⟩] true)
          (.ret))) }

/- sequitur/term.Compare -/
def F12 : AF :=
  { ntmps := 34, results := [.tmp 4], pure := true, body :=
    .seq
      (.ops [⟨some 2, .box 24 (.t 0), none⟩, 
          ⟨some 3, .box 24 (.t 1), none⟩, 
          ⟨some 4, .move (.c (.int .i64 0)), none⟩] false)
      (.seq
        (.ops [⟨some 5, .fieldA 0 (.t 2), none⟩, 
            ⟨some 6, .load false 1 (.t 5), none⟩, 
            ⟨some 7, .fieldA 0 (.t 3), none⟩, 
            ⟨some 8, .load false 1 (.t 7), none⟩, 
            ⟨some 9, .call 33 [.t 6, .t 8], none⟩, 
            ⟨some 10, .fieldA 2 (.t 2), none⟩, 
            ⟨some 11, .load false 1 (.t 10), none⟩, 
            ⟨some 12, .fieldA 2 (.t 3), none⟩, 
            ⟨some 13, .load false 1 (.t 12), none⟩, 
            ⟨some 14, .call 34 [.t 11, .t 13], none⟩, 
            ⟨some 15, .fieldA 1 (.t 2), none⟩, 
            ⟨some 16, .load false 1 (.t 15), none⟩, 
            ⟨some 17, .fieldA 1 (.t 3), none⟩, 
            ⟨some 18, .load false 1 (.t 17), none⟩, 
            ⟨some 19, .call 35 [.t 16, .t 18], none⟩, 
            ⟨some 20, .fieldA 3 (.t 2), none⟩, 
            ⟨some 21, .load false 1 (.t 20), none⟩, 
            ⟨some 22, .len (.t 21), none⟩, 
            ⟨some 23, .fieldA 3 (.t 3), none⟩, 
            ⟨some 24, .load false 1 (.t 23), none⟩, 
            ⟨some 25, .len (.t 24), none⟩, 
            ⟨some 26, .call 33 [.t 22, .t 25], none⟩, 
            ⟨some 27, .fieldA 3 (.t 2), none⟩, 
            ⟨some 28, .load false 1 (.t 27), none⟩, 
            ⟨some 29, .fieldA 3 (.t 3), none⟩, 
            ⟨some 30, .load false 1 (.t 29), none⟩, 
            ⟨some 31, .call 36 [.t 28, .t 30, .f 12], none⟩, 
            ⟨some 32, .buildSl 1 [.int .i64 0] 5 [(0, .t 9), (1, .t 14), (2, .t 19), (3, .t 26), (4, .t 31)], none⟩, 
            ⟨some 33, .call 32 [.t 32], none⟩, 
            ⟨some 4, .move (.t 33), none⟩] true)
        (.ret)) }

/- sequitur/term.Same -/
def F14 : AF :=
  { ntmps := 9, results := [.tmp 4], pure := true, body :=
    .seq
      (.ops [⟨some 2, .box 24 (.t 0), none⟩, 
          ⟨some 3, .box 24 (.t 1), none⟩, 
          ⟨some 4, .move (.c (.bool false)), none⟩] false)
      (.seq
        (.ops [⟨some 5, .load true 4 (.t 2), none⟩, 
            ⟨some 6, .load true 4 (.t 3), none⟩, 
            ⟨some 7, .call 12 [.t 5, .t 6], none⟩, 
            ⟨some 8, .bin .eql (.t 7) (.c (.int .i64 0)), none⟩, 
            ⟨some 4, .move (.t 8), none⟩] false)
        (.ret)) }

/- sequitur/sequiturbase.Term -/
def F15 : AF :=
  { ntmps := 31, results := [.tmp 4], pure := true, body :=
    .seq
      (.ops [⟨some 2, .box 24 (.t 0), none⟩, 
          ⟨some 3, .box 24 (.t 1), none⟩, 
          ⟨some 4, .move (.c (.bool false)), none⟩] false)
      (.seq
        (.ops [⟨some 5, .fieldA 0 (.t 2), none⟩, 
            ⟨some 6, .load false 1 (.t 5), none⟩, 
            ⟨some 7, .fieldA 0 (.t 3), none⟩, 
            ⟨some 8, .load false 1 (.t 7), none⟩, 
            ⟨some 9, .bin .eql (.t 6) (.t 8), none⟩, 
            ⟨some 10, .move (.t 9), none⟩, 
            ⟨some 11, .fieldA 1 (.t 2), some (10, true)⟩, 
            ⟨some 12, .load false 1 (.t 11), some (10, true)⟩, 
            ⟨some 13, .fieldA 1 (.t 3), some (10, true)⟩, 
            ⟨some 14, .load false 1 (.t 13), some (10, true)⟩, 
            ⟨some 15, .bin .eql (.t 12) (.t 14), some (10, true)⟩, 
            ⟨some 16, .pick (.t 10) (.t 15) (.c (.bool false)), none⟩, 
            ⟨some 17, .move (.t 16), none⟩, 
            ⟨some 18, .fieldA 2 (.t 2), some (17, true)⟩, 
            ⟨some 19, .load false 1 (.t 18), some (17, true)⟩, 
            ⟨some 20, .fieldA 2 (.t 3), some (17, true)⟩, 
            ⟨some 21, .load false 1 (.t 20), some (17, true)⟩, 
            ⟨some 22, .bin .eql (.t 19) (.t 21), some (17, true)⟩, 
            ⟨some 23, .pick (.t 17) (.t 22) (.c (.bool false)), none⟩, 
            ⟨some 24, .move (.t 23), none⟩, 
            ⟨some 25, .fieldA 3 (.t 2), some (24, true)⟩, 
            ⟨some 26, .load false 1 (.t 25), some (24, true)⟩, 
            ⟨some 27, .fieldA 3 (.t 3), some (24, true)⟩, 
            ⟨some 28, .load false 1 (.t 27), some (24, true)⟩, 
            ⟨some 29, .call 18 [.t 26, .t 28], some (24, true)⟩, 
            ⟨some 30, .pick (.t 24) (.t 29) (.c (.bool false)), none⟩, 
            ⟨some 4, .move (.t 30), none⟩] false)
        (.ret)) }

/- sequitur/sequiturlaw07.Small -/
def L16_0 : AC :=
  .seq
    (.seq
      (.ops [⟨some 4, .move (.t 3), none⟩, 
          ⟨some 5, .move (.t 0), none⟩, 
          ⟨some 6, .len (.t 5), none⟩, 
          ⟨some 7, .bin .lss (.t 4) (.t 6), none⟩] false)
      (.cond (.t 7)
        (.skip)
        (.exit 0)))
    (.seq
      (.block 1
        (.seq
          (.ops [⟨some 10, .move (.t 0), none⟩, 
              ⟨some 11, .move (.t 3), none⟩, 
              ⟨some 12, .idxA 4 (.t 10) (.t 11), none⟩, 
              ⟨some 13, .load true 4 (.t 12), none⟩, 
              ⟨some 14, .call 10 [.t 13, .c (.int .i64 60)], none⟩, 
              ⟨some 15, .bin .gtr (.t 14) (.c (.int .i64 60)), none⟩] false)
          (.cond (.t 15)
            (.seq
              (.ops [⟨some 2, .move (.c (.bool false)), none⟩] false)
              (.ret))
            (.skip))))
      (.ops [⟨some 8, .move (.t 3), none⟩, 
          ⟨some 9, .bin .add (.t 8) (.c (.int .i64 1)), none⟩, 
          ⟨some 3, .move (.t 9), none⟩] false))
def F16 : AF :=
  { ntmps := 16, results := [.tmp 2], pure := true, body :=
    .seq
      (.ops [⟨some 2, .move (.c (.bool false)), none⟩] false)
      (.seq
        (.seq
          (.ops [⟨some 3, .move (.c (.int .i64 0)), none⟩] false)
          (.block 0
            (.loop L16_0)))
        (.seq
          (.ops [⟨some 2, .move (.c (.bool true)), none⟩] false)
          (.ret))) }

/- sequitur/sequiturbase.Terms -/
def L18_0 : AC :=
  .seq
    (.seq
      (.ops [⟨some 11, .move (.t 5), none⟩, 
          ⟨some 12, .move (.t 0), none⟩, 
          ⟨some 13, .len (.t 12), none⟩, 
          ⟨some 14, .bin .lss (.t 11) (.t 13), none⟩] false)
      (.cond (.t 14)
        (.skip)
        (.exit 0)))
    (.seq
      (.block 1
        (.seq
          (.ops [⟨some 17, .move (.t 0), none⟩, 
              ⟨some 18, .move (.t 5), none⟩, 
              ⟨some 19, .idxA 4 (.t 17) (.t 18), none⟩, 
              ⟨some 20, .load true 4 (.t 19), none⟩, 
              ⟨some 21, .move (.t 1), none⟩, 
              ⟨some 22, .move (.t 5), none⟩, 
              ⟨some 23, .idxA 4 (.t 21) (.t 22), none⟩, 
              ⟨some 24, .load true 4 (.t 23), none⟩, 
              ⟨some 25, .call 15 [.t 20, .t 24], none⟩, 
              ⟨some 26, .not (.t 25), none⟩] true)
          (.cond (.t 26)
            (.seq
              (.ops [⟨some 4, .move (.c (.bool false)), none⟩] false)
              (.ret))
            (.skip))))
      (.ops [⟨some 15, .move (.t 5), none⟩, 
          ⟨some 16, .bin .add (.t 15) (.c (.int .i64 1)), none⟩, 
          ⟨some 5, .move (.t 16), none⟩] false))
def F18 : AF :=
  { ntmps := 27, results := [.tmp 4], pure := true, body :=
    .seq
      (.ops [⟨some 4, .move (.c (.bool false)), none⟩] false)
      (.seq
        (.seq
          (.ops [⟨some 6, .move (.t 0), none⟩, 
              ⟨some 7, .len (.t 6), none⟩, 
              ⟨some 8, .move (.t 1), none⟩, 
              ⟨some 9, .len (.t 8), none⟩, 
              ⟨some 10, .bin .neq (.t 7) (.t 9), none⟩] false)
          (.cond (.t 10)
            (.seq
              (.ops [⟨some 4, .move (.c (.bool false)), none⟩] false)
              (.ret))
            (.skip)))
        (.seq
          (.seq
            (.ops [⟨some 5, .move (.c (.int .i64 0)), none⟩] false)
            (.block 0
              (.loop L18_0)))
          (.seq
            (.ops [⟨some 4, .move (.c (.bool true)), none⟩] false)
            (.ret)))) }

/- sequitur/term.Parts -/
def A19_0 : AC :=
  .ops [⟨some 4, .alloc 24 [.int .i64 0, .str ⟨#[]⟩, .int .i64 0, .fsl 4 []], none⟩, 
      ⟨none, .store 4 (.t 4) (.t 7), none⟩] false

def B19_0 : AC :=
  .block 1
    (.seq
      (.ops [⟨some 8, .load false 1 (.t 3), none⟩, 
          ⟨some 9, .load true 4 (.t 4), none⟩, 
          ⟨some 10, .call 41 [.t 9], none⟩, 
          ⟨some 11, .call 40 [.t 8, .t 10], none⟩, 
          ⟨some 12, .not (.t 11), none⟩] true)
      (.cond (.t 12)
        (.ops [⟨some 13, .load false 1 (.t 3), none⟩, 
            ⟨some 14, .load true 4 (.t 4), none⟩, 
            ⟨some 15, .len (.t 13), none⟩, 
            ⟨some 16, .buildSl 4 [.int .i64 0, .str ⟨#[]⟩, .int .i64 0, .fsl 4 []] 1 [(0, .c (.agg [.int .i64 0, .str ⟨#[]⟩, .int .i64 0, .fsl 0 []]))], none⟩, 
            ⟨some 17, .append 24 4 56 (.t 13) (.t 16), none⟩, 
            ⟨some 18, .idxA 4 (.t 17) (.t 15), none⟩, 
            ⟨none, .store 4 (.t 18) (.t 14), none⟩, 
            ⟨none, .store 1 (.t 3) (.t 17), none⟩] true)
        (.skip)))
def F19 : AF :=
  { ntmps := 20, results := [.tmp 2], pure := true, body :=
    .seq
      (.ops [⟨some 1, .box 24 (.t 0), none⟩, 
          ⟨some 2, .move (.c (.fsl 4 [])), none⟩] false)
      (.seq
        (.ops [⟨some 3, .alloc 22 [.fsl 4 []], none⟩] false)
        (.seq
          (.seq
            (.ops [⟨some 5, .load true 4 (.t 1), none⟩, 
                ⟨some 6, .call 39 [.t 5], none⟩] false)
            (.block 0
              (.range (.t 6) [7] A19_0 B19_0)))
          (.seq
            (.ops [⟨some 19, .load false 1 (.t 3), none⟩, 
                ⟨some 2, .move (.t 19), none⟩] false)
            (.ret)))) }

/- sequitur/sequiturref07.Twin -/
def L22_0 : AC :=
  .seq
    (.seq
      (.ops [⟨some 12, .move (.t 4), none⟩, 
          ⟨some 13, .fieldA 3 (.t 1), none⟩, 
          ⟨some 14, .load false 1 (.t 13), none⟩, 
          ⟨some 15, .len (.t 14), none⟩, 
          ⟨some 16, .bin .lss (.t 12) (.t 15), none⟩] false)
      (.cond (.t 16)
        (.skip)
        (.exit 0)))
    (.seq
      (.block 1
        (.ops [⟨some 19, .fieldA 3 (.t 3), none⟩, 
            ⟨some 20, .load false 1 (.t 19), none⟩, 
            ⟨some 21, .fieldA 3 (.t 1), none⟩, 
            ⟨some 22, .load false 1 (.t 21), none⟩, 
            ⟨some 23, .move (.t 4), none⟩, 
            ⟨some 24, .idxA 4 (.t 22) (.t 23), none⟩, 
            ⟨some 25, .load true 4 (.t 24), none⟩, 
            ⟨some 26, .call 22 [.t 25], none⟩, 
            ⟨some 27, .buildSl 4 [.int .i64 0, .str ⟨#[]⟩, .int .i64 0, .fsl 4 []] 1 [(0, .t 26)], none⟩, 
            ⟨some 28, .append 24 4 56 (.t 20) (.t 27), none⟩, 
            ⟨some 29, .fieldA 3 (.t 3), none⟩, 
            ⟨none, .store 1 (.t 29) (.t 28), none⟩] true))
      (.ops [⟨some 17, .move (.t 4), none⟩, 
          ⟨some 18, .bin .add (.t 17) (.c (.int .i64 1)), none⟩, 
          ⟨some 4, .move (.t 18), none⟩] false))
def F22 : AF :=
  { ntmps := 31, results := [.cell 2 true 4], pure := true, body :=
    .seq
      (.ops [⟨some 1, .box 24 (.t 0), none⟩, 
          ⟨some 2, .alloc 24 [.int .i64 0, .str ⟨#[]⟩, .int .i64 0, .fsl 4 []], none⟩] false)
      (.seq
        (.ops [⟨some 5, .fieldA 0 (.t 1), none⟩, 
            ⟨some 6, .load false 1 (.t 5), none⟩, 
            ⟨some 7, .fieldA 1 (.t 1), none⟩, 
            ⟨some 8, .load false 1 (.t 7), none⟩, 
            ⟨some 9, .fieldA 2 (.t 1), none⟩, 
            ⟨some 10, .load false 1 (.t 9), none⟩, 
            ⟨some 11, .build [.int .i64 0, .str ⟨#[]⟩, .int .i64 0, .fsl 4 []] [(0, 1, .t 6), (1, 1, .t 8), (2, 1, .t 10)], none⟩, 
            ⟨some 3, .alloc 24 [.int .i64 0, .str ⟨#[]⟩, .int .i64 0, .fsl 4 []], none⟩, 
            ⟨none, .store 4 (.t 3) (.t 11), none⟩] false)
        (.seq
          (.seq
            (.ops [⟨some 4, .move (.c (.int .i64 0)), none⟩] false)
            (.block 0
              (.loop L22_0)))
          (.seq
            (.ops [⟨some 30, .load true 4 (.t 3), none⟩, 
                ⟨none, .store 4 (.t 2) (.t 30), none⟩] false)
            (.ret)))) }

/- sequitur/term.Copy -/
def F23 : AF :=
  { ntmps := 5, results := [.cell 2 true 4], pure := false, body :=
    .seq
      (.ops [⟨some 1, .box 24 (.t 0), none⟩, 
          ⟨some 2, .alloc 24 [.int .i64 0, .str ⟨#[]⟩, .int .i64 0, .fsl 4 []], none⟩] false)
      (.seq
        (.ops [⟨some 3, .load true 4 (.t 1), none⟩, 
            ⟨some 4, .call 42 [.t 3, .f 23], none⟩, 
            ⟨none, .store 4 (.t 2) (.t 4), none⟩] false)
        (.ret)) }

/- sequitur/sequiturlaw07.spoil -/
def L24_0 : AC :=
  .seq
    (.seq
      (.ops [⟨some 3, .move (.t 2), none⟩, 
          ⟨some 4, .fieldA 3 (.t 1), none⟩, 
          ⟨some 5, .load false 1 (.t 4), none⟩, 
          ⟨some 6, .len (.t 5), none⟩, 
          ⟨some 7, .bin .lss (.t 3) (.t 6), none⟩] false)
      (.cond (.t 7)
        (.skip)
        (.exit 0)))
    (.seq
      (.block 1
        (.seq
          (.ops [⟨some 10, .fieldA 3 (.t 1), none⟩, 
              ⟨some 11, .load false 1 (.t 10), none⟩, 
              ⟨some 12, .move (.t 2), none⟩, 
              ⟨some 13, .idxA 4 (.t 11) (.t 12), none⟩, 
              ⟨some 14, .load true 4 (.t 13), none⟩, 
              ⟨some 15, .call 24 [.t 14], none⟩] false)
          (.ops [⟨some 16, .fieldA 3 (.t 1), none⟩, 
              ⟨some 17, .load false 1 (.t 16), none⟩, 
              ⟨some 18, .move (.t 2), none⟩, 
              ⟨some 19, .build [.int .i64 0, .str ⟨#[]⟩, .int .i64 0, .fsl 4 []] [(0, 1, .c (.int .i64 (-1))), (1, 1, .c (.str ⟨#[115, 112, 111, 105, 108, 116]⟩))], none⟩, 
              ⟨some 20, .idxA 4 (.t 17) (.t 18), none⟩, 
              ⟨none, .store 4 (.t 20) (.t 19), none⟩] false)))
      (.ops [⟨some 8, .move (.t 2), none⟩, 
          ⟨some 9, .bin .add (.t 8) (.c (.int .i64 1)), none⟩, 
          ⟨some 2, .move (.t 9), none⟩] false))
def F24 : AF :=
  { ntmps := 21, results := [], pure := false, body :=
    .seq
      (.ops [⟨some 1, .box 24 (.t 0), none⟩] false)
      (.seq
        (.ops [⟨some 2, .move (.c (.int .i64 0)), none⟩] false)
        (.block 0
          (.loop L24_0))) }

/- sequitur/term.Size -/
def A30_0 : AC :=
  .skip

def B30_0 : AC :=
  .block 1
    (.seq
      (.ops [⟨some 7, .load false 1 (.t 3), none⟩, 
          ⟨some 8, .bin .add (.t 7) (.c (.int .i64 1)), none⟩, 
          ⟨none, .store 1 (.t 3) (.t 8), none⟩] false)
      (.seq
        (.ops [⟨some 9, .load false 1 (.t 3), none⟩, 
            ⟨some 10, .bin .gtr (.t 9) (.c (.int .i64 4096)), none⟩] false)
        (.cond (.t 10)
          (.exit 0)
          (.skip))))
def F30 : AF :=
  { ntmps := 12, results := [.tmp 2], pure := true, body :=
    .seq
      (.ops [⟨some 1, .box 24 (.t 0), none⟩, 
          ⟨some 2, .move (.c (.int .i64 0)), none⟩] false)
      (.seq
        (.ops [⟨some 3, .alloc 3 [.int .i64 0], none⟩, 
            ⟨none, .store 1 (.t 3) (.c (.int .i64 0)), none⟩] false)
        (.seq
          (.seq
            (.ops [⟨some 4, .load true 4 (.t 1), none⟩, 
                ⟨some 5, .call 39 [.t 4], none⟩] false)
            (.block 0
              (.range (.t 5) [6] A30_0 B30_0)))
          (.seq
            (.ops [⟨some 11, .load false 1 (.t 3), none⟩, 
                ⟨some 2, .move (.t 11), none⟩] false)
            (.ret)))) }

/- sequitur/term.Depth -/
def F31 : AF :=
  { ntmps := 5, results := [.tmp 2], pure := true, body :=
    .seq
      (.ops [⟨some 1, .box 24 (.t 0), none⟩, 
          ⟨some 2, .move (.c (.int .i64 0)), none⟩] false)
      (.seq
        (.ops [⟨some 3, .load true 4 (.t 1), none⟩, 
            ⟨some 4, .call 48 [.t 3, .c (.int .i64 65)], none⟩, 
            ⟨some 2, .move (.t 4), none⟩] false)
        (.ret)) }

/- cmp.Or[int] -/
def L32_0 : AC :=
  .seq
    (.ops [⟨some 9, .bin .lss (.t 8) (.t 7), none⟩] false)
    (.seq
      (.cond (.t 9)
        (.skip)
        (.exit 0))
      (.seq
        (.block 1
          (.seq
            (.ops [⟨some 10, .idxA 1 (.t 6) (.t 8), none⟩, 
                ⟨some 11, .load false 1 (.t 10), none⟩, 
                ⟨some 5, .move (.t 11), none⟩] false)
            (.seq
              (.ops [⟨some 12, .move (.t 5), none⟩, 
                  ⟨some 13, .move (.t 3), none⟩, 
                  ⟨some 14, .bin .neq (.t 12) (.t 13), none⟩] false)
              (.cond (.t 14)
                (.seq
                  (.ops [⟨some 15, .move (.t 5), none⟩, 
                      ⟨some 2, .move (.t 15), none⟩] false)
                  (.ret))
                (.skip)))))
        (.ops [⟨some 16, .bin .add (.t 8) (.c (.int .i64 1)), none⟩, 
            ⟨some 8, .move (.t 16), none⟩] false)))
def F32 : AF :=
  { ntmps := 18, results := [.tmp 2], pure := true, body :=
    .seq
      (.ops [⟨some 2, .move (.c (.int .i64 0)), none⟩] false)
      (.seq
        (.ops [⟨some 3, .move (.c (.int .i64 0)), none⟩] false)
        (.seq
          (.seq
            (.ops [⟨some 6, .move (.t 0), none⟩, 
                ⟨some 7, .len (.t 6), none⟩, 
                ⟨some 8, .move (.c (.int .i64 0)), none⟩] false)
            (.block 0
              (.loop L32_0)))
          (.seq
            (.ops [⟨some 17, .move (.t 3), none⟩, 
                ⟨some 2, .move (.t 17), none⟩] false)
            (.ret)))) }

/- cmp.Compare[int] -/
def F33 : AF :=
  { ntmps := 20, results := [.tmp 4], pure := true, body :=
    .seq
      (.ops [⟨some 4, .move (.c (.int .i64 0)), none⟩] false)
      (.seq
        (.ops [⟨some 7, .move (.t 0), none⟩, 
            ⟨some 8, .call 49 [.t 7], none⟩, 
            ⟨some 5, .move (.t 8), none⟩] false)
        (.seq
          (.ops [⟨some 9, .move (.t 1), none⟩, 
              ⟨some 10, .call 49 [.t 9], none⟩, 
              ⟨some 6, .move (.t 10), none⟩] false)
          (.seq
            (.seq
              (.ops [⟨some 11, .move (.t 5), none⟩] false)
              (.cond (.t 11)
                (.seq
                  (.seq
                    (.ops [⟨some 12, .move (.t 6), none⟩] false)
                    (.cond (.t 12)
                      (.seq
                        (.ops [⟨some 4, .move (.c (.int .i64 0)), none⟩] false)
                        (.ret))
                      (.skip)))
                  (.seq
                    (.ops [⟨some 4, .move (.c (.int .i64 (-1))), none⟩] false)
                    (.ret)))
                (.skip)))
            (.seq
              (.seq
                (.ops [⟨some 13, .move (.t 6), none⟩] false)
                (.cond (.t 13)
                  (.seq
                    (.ops [⟨some 4, .move (.c (.int .i64 1)), none⟩] false)
                    (.ret))
                  (.skip)))
              (.seq
                (.seq
                  (.ops [⟨some 14, .move (.t 0), none⟩, 
                      ⟨some 15, .move (.t 1), none⟩, 
                      ⟨some 16, .bin .lss (.t 14) (.t 15), none⟩] false)
                  (.cond (.t 16)
                    (.seq
                      (.ops [⟨some 4, .move (.c (.int .i64 (-1))), none⟩] false)
                      (.ret))
                    (.skip)))
                (.seq
                  (.seq
                    (.ops [⟨some 17, .move (.t 0), none⟩, 
                        ⟨some 18, .move (.t 1), none⟩, 
                        ⟨some 19, .bin .gtr (.t 17) (.t 18), none⟩] false)
                    (.cond (.t 19)
                      (.seq
                        (.ops [⟨some 4, .move (.c (.int .i64 1)), none⟩] false)
                        (.ret))
                      (.skip)))
                  (.seq
                    (.ops [⟨some 4, .move (.c (.int .i64 0)), none⟩] false)
                    (.ret)))))))) }

/- cmp.Compare[int64] -/
def F34 : AF :=
  { ntmps := 20, results := [.tmp 4], pure := true, body :=
    .seq
      (.ops [⟨some 4, .move (.c (.int .i64 0)), none⟩] false)
      (.seq
        (.ops [⟨some 7, .move (.t 0), none⟩, 
            ⟨some 8, .call 50 [.t 7], none⟩, 
            ⟨some 5, .move (.t 8), none⟩] false)
        (.seq
          (.ops [⟨some 9, .move (.t 1), none⟩, 
              ⟨some 10, .call 50 [.t 9], none⟩, 
              ⟨some 6, .move (.t 10), none⟩] false)
          (.seq
            (.seq
              (.ops [⟨some 11, .move (.t 5), none⟩] false)
              (.cond (.t 11)
                (.seq
                  (.seq
                    (.ops [⟨some 12, .move (.t 6), none⟩] false)
                    (.cond (.t 12)
                      (.seq
                        (.ops [⟨some 4, .move (.c (.int .i64 0)), none⟩] false)
                        (.ret))
                      (.skip)))
                  (.seq
                    (.ops [⟨some 4, .move (.c (.int .i64 (-1))), none⟩] false)
                    (.ret)))
                (.skip)))
            (.seq
              (.seq
                (.ops [⟨some 13, .move (.t 6), none⟩] false)
                (.cond (.t 13)
                  (.seq
                    (.ops [⟨some 4, .move (.c (.int .i64 1)), none⟩] false)
                    (.ret))
                  (.skip)))
              (.seq
                (.seq
                  (.ops [⟨some 14, .move (.t 0), none⟩, 
                      ⟨some 15, .move (.t 1), none⟩, 
                      ⟨some 16, .bin .lss (.t 14) (.t 15), none⟩] false)
                  (.cond (.t 16)
                    (.seq
                      (.ops [⟨some 4, .move (.c (.int .i64 (-1))), none⟩] false)
                      (.ret))
                    (.skip)))
                (.seq
                  (.seq
                    (.ops [⟨some 17, .move (.t 0), none⟩, 
                        ⟨some 18, .move (.t 1), none⟩, 
                        ⟨some 19, .bin .gtr (.t 17) (.t 18), none⟩] false)
                    (.cond (.t 19)
                      (.seq
                        (.ops [⟨some 4, .move (.c (.int .i64 1)), none⟩] false)
                        (.ret))
                      (.skip)))
                  (.seq
                    (.ops [⟨some 4, .move (.c (.int .i64 0)), none⟩] false)
                    (.ret)))))))) }

/- cmp.Compare[string] -/
def F35 : AF :=
  { ntmps := 20, results := [.tmp 4], pure := true, body :=
    .seq
      (.ops [⟨some 4, .move (.c (.int .i64 0)), none⟩] false)
      (.seq
        (.ops [⟨some 7, .move (.t 0), none⟩, 
            ⟨some 8, .call 51 [.t 7], none⟩, 
            ⟨some 5, .move (.t 8), none⟩] false)
        (.seq
          (.ops [⟨some 9, .move (.t 1), none⟩, 
              ⟨some 10, .call 51 [.t 9], none⟩, 
              ⟨some 6, .move (.t 10), none⟩] false)
          (.seq
            (.seq
              (.ops [⟨some 11, .move (.t 5), none⟩] false)
              (.cond (.t 11)
                (.seq
                  (.seq
                    (.ops [⟨some 12, .move (.t 6), none⟩] false)
                    (.cond (.t 12)
                      (.seq
                        (.ops [⟨some 4, .move (.c (.int .i64 0)), none⟩] false)
                        (.ret))
                      (.skip)))
                  (.seq
                    (.ops [⟨some 4, .move (.c (.int .i64 (-1))), none⟩] false)
                    (.ret)))
                (.skip)))
            (.seq
              (.seq
                (.ops [⟨some 13, .move (.t 6), none⟩] false)
                (.cond (.t 13)
                  (.seq
                    (.ops [⟨some 4, .move (.c (.int .i64 1)), none⟩] false)
                    (.ret))
                  (.skip)))
              (.seq
                (.seq
                  (.ops [⟨some 14, .move (.t 0), none⟩, 
                      ⟨some 15, .move (.t 1), none⟩, 
                      ⟨some 16, .bin .lss (.t 14) (.t 15), none⟩] false)
                  (.cond (.t 16)
                    (.seq
                      (.ops [⟨some 4, .move (.c (.int .i64 (-1))), none⟩] false)
                      (.ret))
                    (.skip)))
                (.seq
                  (.seq
                    (.ops [⟨some 17, .move (.t 0), none⟩, 
                        ⟨some 18, .move (.t 1), none⟩, 
                        ⟨some 19, .bin .gtr (.t 17) (.t 18), none⟩] false)
                    (.cond (.t 19)
                      (.seq
                        (.ops [⟨some 4, .move (.c (.int .i64 1)), none⟩] false)
                        (.ret))
                      (.skip)))
                  (.seq
                    (.ops [⟨some 4, .move (.c (.int .i64 0)), none⟩] false)
                    (.ret)))))))) }

/- slices.CompareFunc[[]sequitur/api.Term,[]sequitur/api.Term,sequitur/api.Term,sequitur/api.Term] -/
def L36_0 : AC :=
  .seq
    (.ops [⟨some 14, .bin .lss (.t 13) (.t 12), none⟩] false)
    (.seq
      (.cond (.t 14)
        (.skip)
        (.exit 0))
      (.seq
        (.block 1
          (.seq
            (.ops [⟨some 15, .move (.t 13), none⟩, 
                ⟨some 16, .idxA 4 (.t 11) (.t 13), none⟩, 
                ⟨some 17, .load true 4 (.t 16), none⟩, 
                ⟨some 8, .alloc 24 [.int .i64 0, .str ⟨#[]⟩, .int .i64 0, .fsl 4 []], none⟩, 
                ⟨some 7, .move (.t 15), none⟩, 
                ⟨none, .store 4 (.t 8) (.t 17), none⟩] false)
            (.seq
              (.seq
                (.ops [⟨some 18, .move (.t 7), none⟩, 
                    ⟨some 19, .move (.t 1), none⟩, 
                    ⟨some 20, .len (.t 19), none⟩, 
                    ⟨some 21, .bin .geq (.t 18) (.t 20), none⟩] false)
                (.cond (.t 21)
                  (.seq
                    (.ops [⟨some 6, .move (.c (.int .i64 1)), none⟩] false)
                    (.ret))
                  (.skip)))
              (.seq
                (.ops [⟨some 22, .move (.t 1), none⟩, 
                    ⟨some 23, .move (.t 7), none⟩, 
                    ⟨some 24, .idxA 4 (.t 22) (.t 23), none⟩, 
                    ⟨some 25, .load true 4 (.t 24), none⟩, 
                    ⟨some 9, .alloc 24 [.int .i64 0, .str ⟨#[]⟩, .int .i64 0, .fsl 4 []], none⟩, 
                    ⟨none, .store 4 (.t 9) (.t 25), none⟩] false)
                (.seq
                  (.ops [⟨some 26, .move (.t 2), none⟩, 
                      ⟨some 27, .load true 4 (.t 8), none⟩, 
                      ⟨some 28, .load true 4 (.t 9), none⟩, 
                      ⟨some 29, .callv (.t 26) [.t 27, .t 28], none⟩, 
                      ⟨some 10, .move (.t 29), none⟩] false)
                  (.seq
                    (.ops [⟨some 30, .move (.t 10), none⟩, 
                        ⟨some 31, .bin .neq (.t 30) (.c (.int .i64 0)), none⟩] false)
                    (.cond (.t 31)
                      (.seq
                        (.ops [⟨some 32, .move (.t 10), none⟩, 
                            ⟨some 6, .move (.t 32), none⟩] false)
                        (.ret))
                      (.skip))))))))
        (.ops [⟨some 33, .bin .add (.t 13) (.c (.int .i64 1)), none⟩, 
            ⟨some 13, .move (.t 33), none⟩] false)))
def F36 : AF :=
  { ntmps := 39, results := [.tmp 6], pure := true, body :=
    .seq
      (.ops [⟨some 6, .move (.c (.int .i64 0)), none⟩] false)
      (.seq
        (.seq
          (.ops [⟨some 11, .move (.t 0), none⟩, 
              ⟨some 12, .len (.t 11), none⟩, 
              ⟨some 13, .move (.c (.int .i64 0)), none⟩] false)
          (.block 0
            (.loop L36_0)))
        (.seq
          (.seq
            (.ops [⟨some 34, .move (.t 0), none⟩, 
                ⟨some 35, .len (.t 34), none⟩, 
                ⟨some 36, .move (.t 1), none⟩, 
                ⟨some 37, .len (.t 36), none⟩, 
                ⟨some 38, .bin .lss (.t 35) (.t 37), none⟩] false)
            (.cond (.t 38)
              (.seq
                (.ops [⟨some 6, .move (.c (.int .i64 (-1))), none⟩] false)
                (.ret))
              (.skip)))
          (.seq
            (.ops [⟨some 6, .move (.c (.int .i64 0)), none⟩] false)
            (.ret)))) }

/- sequitur/term.all -/
def F39 : AF :=
  { ntmps := 4, results := [.tmp 2], pure := true, body :=
    .seq
      (.ops [⟨some 1, .box 24 (.t 0), none⟩, 
          ⟨some 2, .move (.c (.nilf)), none⟩] false)
      (.seq
        (.ops [⟨some 3, .mkfn (.func 52) [] [.t 1], none⟩, 
            ⟨some 2, .move (.t 3), none⟩] false)
        (.ret)) }

/- slices.ContainsFunc[[]sequitur/api.Term,sequitur/api.Term] -/
def F40 : AF :=
  { ntmps := 9, results := [.tmp 4], pure := true, body :=
    .seq
      (.ops [⟨some 4, .move (.c (.bool false)), none⟩] false)
      (.seq
        (.ops [⟨some 5, .move (.t 0), none⟩, 
            ⟨some 6, .move (.t 1), none⟩, 
            ⟨some 7, .call 54 [.t 5, .t 6], none⟩, 
            ⟨some 8, .bin .geq (.t 7) (.c (.int .i64 0)), none⟩, 
            ⟨some 4, .move (.t 8), none⟩] false)
        (.ret)) }

/- sequitur/term.is -/
def F41 : AF :=
  { ntmps := 4, results := [.tmp 2], pure := true, body :=
    .seq
      (.ops [⟨some 1, .box 24 (.t 0), none⟩, 
          ⟨some 2, .move (.c (.nilf)), none⟩] false)
      (.seq
        (.ops [⟨some 3, .mkfn (.func 55) [] [.t 1], none⟩, 
            ⟨some 2, .move (.t 3), none⟩] false)
        (.ret)) }

/- sequitur/term.with -/
def L42_0 : AC :=
  .seq
    (.ops [⟨some 12, .bin .lss (.t 11) (.t 10), none⟩] false)
    (.seq
      (.cond (.t 12)
        (.skip)
        (.exit 0))
      (.seq
        (.block 1
          (.seq
            (.ops [⟨some 13, .idxA 4 (.t 9) (.t 11), none⟩, 
                ⟨some 14, .load true 4 (.t 13), none⟩, 
                ⟨some 7, .alloc 24 [.int .i64 0, .str ⟨#[]⟩, .int .i64 0, .fsl 4 []], none⟩, 
                ⟨none, .store 4 (.t 7) (.t 14), none⟩] false)
            (.ops [⟨some 15, .move (.t 5), none⟩, 
                ⟨some 16, .move (.t 1), none⟩, 
                ⟨some 17, .load true 4 (.t 7), none⟩, 
                ⟨some 18, .callv (.t 16) [.t 17], none⟩, 
                ⟨some 19, .buildSl 4 [.int .i64 0, .str ⟨#[]⟩, .int .i64 0, .fsl 4 []] 1 [(0, .t 18)], none⟩, 
                ⟨some 20, .append 24 4 56 (.t 15) (.t 19), none⟩, 
                ⟨some 5, .move (.t 20), none⟩] false)))
        (.ops [⟨some 21, .bin .add (.t 11) (.c (.int .i64 1)), none⟩, 
            ⟨some 11, .move (.t 21), none⟩] false)))
def F42 : AF :=
  { ntmps := 25, results := [.cell 4 true 4], pure := false, body :=
    .seq
      (.ops [⟨some 2, .box 24 (.t 0), none⟩, 
          ⟨some 4, .alloc 24 [.int .i64 0, .str ⟨#[]⟩, .int .i64 0, .fsl 4 []], none⟩] false)
      (.seq
        (.ops [⟨some 5, .move (.c (.fsl 4 [])), none⟩] false)
        (.seq
          (.seq
            (.ops [⟨some 8, .fieldA 3 (.t 2), none⟩, 
                ⟨some 9, .load false 1 (.t 8), none⟩, 
                ⟨some 10, .len (.t 9), none⟩, 
                ⟨some 11, .move (.c (.int .i64 0)), none⟩] false)
            (.block 0
              (.loop L42_0)))
          (.seq
            (.ops [⟨some 22, .move (.t 5), none⟩, 
                ⟨some 23, .fieldA 3 (.t 2), none⟩, 
                ⟨none, .store 1 (.t 23) (.t 22), none⟩] false)
            (.seq
              (.ops [⟨some 24, .load true 4 (.t 2), none⟩, 
                  ⟨none, .store 4 (.t 4) (.t 24), none⟩] false)
              (.ret))))) }

/- sequitur/term.depth -/
def L48_0 : AC :=
  .seq
    (.ops [⟨some 14, .bin .lss (.t 13) (.t 12), none⟩] false)
    (.seq
      (.cond (.t 14)
        (.skip)
        (.exit 0))
      (.seq
        (.block 1
          (.seq
            (.ops [⟨some 15, .idxA 4 (.t 11) (.t 13), none⟩, 
                ⟨some 16, .load true 4 (.t 15), none⟩, 
                ⟨some 7, .alloc 24 [.int .i64 0, .str ⟨#[]⟩, .int .i64 0, .fsl 4 []], none⟩, 
                ⟨none, .store 4 (.t 7) (.t 16), none⟩] false)
            (.ops [⟨some 17, .move (.t 5), none⟩, 
                ⟨some 18, .load true 4 (.t 7), none⟩, 
                ⟨some 19, .move (.t 1), none⟩, 
                ⟨some 20, .bin .sub (.t 19) (.c (.int .i64 1)), none⟩, 
                ⟨some 21, .call 48 [.t 18, .t 20], none⟩, 
                ⟨some 22, .max2 (.t 17) (.t 21), none⟩, 
                ⟨some 5, .move (.t 22), none⟩] false)))
        (.ops [⟨some 23, .bin .add (.t 13) (.c (.int .i64 1)), none⟩, 
            ⟨some 13, .move (.t 23), none⟩] false)))
def F48 : AF :=
  { ntmps := 26, results := [.tmp 4], pure := true, body :=
    .seq
      (.ops [⟨some 2, .box 24 (.t 0), none⟩, 
          ⟨some 4, .move (.c (.int .i64 0)), none⟩] false)
      (.seq
        (.seq
          (.ops [⟨some 8, .move (.t 1), none⟩, 
              ⟨some 9, .bin .leq (.t 8) (.c (.int .i64 1)), none⟩] false)
          (.cond (.t 9)
            (.seq
              (.ops [⟨some 4, .move (.c (.int .i64 1)), none⟩] false)
              (.ret))
            (.skip)))
        (.seq
          (.ops [⟨some 5, .move (.c (.int .i64 0)), none⟩] false)
          (.seq
            (.seq
              (.ops [⟨some 10, .fieldA 3 (.t 2), none⟩, 
                  ⟨some 11, .load false 1 (.t 10), none⟩, 
                  ⟨some 12, .len (.t 11), none⟩, 
                  ⟨some 13, .move (.c (.int .i64 0)), none⟩] false)
              (.block 0
                (.loop L48_0)))
            (.seq
              (.ops [⟨some 24, .move (.t 5), none⟩, 
                  ⟨some 25, .bin .add (.t 24) (.c (.int .i64 1)), none⟩, 
                  ⟨some 4, .move (.t 25), none⟩] false)
              (.ret))))) }

/- cmp.isNaN[int] -/
def F49 : AF :=
  { ntmps := 6, results := [.tmp 2], pure := true, body :=
    .seq
      (.ops [⟨some 2, .move (.c (.bool false)), none⟩] false)
      (.seq
        (.ops [⟨some 3, .move (.t 0), none⟩, 
            ⟨some 4, .move (.t 0), none⟩, 
            ⟨some 5, .bin .neq (.t 3) (.t 4), none⟩, 
            ⟨some 2, .move (.t 5), none⟩] false)
        (.ret)) }

/- cmp.isNaN[int64] -/
def F50 : AF :=
  { ntmps := 6, results := [.tmp 2], pure := true, body :=
    .seq
      (.ops [⟨some 2, .move (.c (.bool false)), none⟩] false)
      (.seq
        (.ops [⟨some 3, .move (.t 0), none⟩, 
            ⟨some 4, .move (.t 0), none⟩, 
            ⟨some 5, .bin .neq (.t 3) (.t 4), none⟩, 
            ⟨some 2, .move (.t 5), none⟩] false)
        (.ret)) }

/- cmp.isNaN[string] -/
def F51 : AF :=
  { ntmps := 6, results := [.tmp 2], pure := true, body :=
    .seq
      (.ops [⟨some 2, .move (.c (.bool false)), none⟩] false)
      (.seq
        (.ops [⟨some 3, .move (.t 0), none⟩, 
            ⟨some 4, .move (.t 0), none⟩, 
            ⟨some 5, .bin .neq (.t 3) (.t 4), none⟩, 
            ⟨some 2, .move (.t 5), none⟩] false)
        (.ret)) }

/- sequitur/term.all$1 -/
def F52 : AF :=
  { ntmps := 6, results := [], pure := false, body :=
    .ops [⟨some 3, .load true 4 (.t 1), none⟩, 
        ⟨some 4, .move (.t 0), none⟩, 
        ⟨some 5, .call 53 [.t 3, .t 4], none⟩] false }

/- sequitur/term.walk -/
def L53_0 : AC :=
  .seq
    (.ops [⟨some 15, .bin .lss (.t 14) (.t 13), none⟩] false)
    (.seq
      (.cond (.t 15)
        (.skip)
        (.exit 0))
      (.seq
        (.block 1
          (.seq
            (.ops [⟨some 16, .idxA 4 (.t 12) (.t 14), none⟩, 
                ⟨some 17, .load true 4 (.t 16), none⟩, 
                ⟨some 6, .alloc 24 [.int .i64 0, .str ⟨#[]⟩, .int .i64 0, .fsl 4 []], none⟩, 
                ⟨none, .store 4 (.t 6) (.t 17), none⟩] false)
            (.seq
              (.ops [⟨some 18, .load true 4 (.t 6), none⟩, 
                  ⟨some 19, .move (.t 1), none⟩, 
                  ⟨some 20, .call 53 [.t 18, .t 19], none⟩, 
                  ⟨some 21, .not (.t 20), none⟩] false)
              (.cond (.t 21)
                (.seq
                  (.ops [⟨some 4, .move (.c (.bool false)), none⟩] false)
                  (.ret))
                (.skip)))))
        (.ops [⟨some 22, .bin .add (.t 14) (.c (.int .i64 1)), none⟩, 
            ⟨some 14, .move (.t 22), none⟩] false)))
def F53 : AF :=
  { ntmps := 23, results := [.tmp 4], pure := false, body :=
    .seq
      (.ops [⟨some 2, .box 24 (.t 0), none⟩, 
          ⟨some 4, .move (.c (.bool false)), none⟩] false)
      (.seq
        (.seq
          (.ops [⟨some 7, .move (.t 1), none⟩, 
              ⟨some 8, .load true 4 (.t 2), none⟩, 
              ⟨some 9, .callv (.t 7) [.t 8], none⟩, 
              ⟨some 10, .not (.t 9), none⟩] false)
          (.cond (.t 10)
            (.seq
              (.ops [⟨some 4, .move (.c (.bool false)), none⟩] false)
              (.ret))
            (.skip)))
        (.seq
          (.seq
            (.ops [⟨some 11, .fieldA 3 (.t 2), none⟩, 
                ⟨some 12, .load false 1 (.t 11), none⟩, 
                ⟨some 13, .len (.t 12), none⟩, 
                ⟨some 14, .move (.c (.int .i64 0)), none⟩] false)
            (.block 0
              (.loop L53_0)))
          (.seq
            (.ops [⟨some 4, .move (.c (.bool true)), none⟩] false)
            (.ret)))) }

/- slices.IndexFunc[[]sequitur/api.Term,sequitur/api.Term] -/
def L54_0 : AC :=
  .seq
    (.ops [⟨some 9, .bin .lss (.t 8) (.t 7), none⟩] false)
    (.seq
      (.cond (.t 9)
        (.skip)
        (.exit 0))
      (.seq
        (.block 1
          (.seq
            (.ops [⟨some 10, .move (.t 8), none⟩, 
                ⟨some 5, .move (.t 10), none⟩] false)
            (.seq
              (.ops [⟨some 11, .move (.t 1), none⟩, 
                  ⟨some 12, .move (.t 0), none⟩, 
                  ⟨some 13, .move (.t 5), none⟩, 
                  ⟨some 14, .idxA 4 (.t 12) (.t 13), none⟩, 
                  ⟨some 15, .load true 4 (.t 14), none⟩, 
                  ⟨some 16, .callv (.t 11) [.t 15], none⟩] false)
              (.cond (.t 16)
                (.seq
                  (.ops [⟨some 17, .move (.t 5), none⟩, 
                      ⟨some 4, .move (.t 17), none⟩] false)
                  (.ret))
                (.skip)))))
        (.ops [⟨some 18, .bin .add (.t 8) (.c (.int .i64 1)), none⟩, 
            ⟨some 8, .move (.t 18), none⟩] false)))
def F54 : AF :=
  { ntmps := 19, results := [.tmp 4], pure := true, body :=
    .seq
      (.ops [⟨some 4, .move (.c (.int .i64 0)), none⟩] false)
      (.seq
        (.seq
          (.ops [⟨some 6, .move (.t 0), none⟩, 
              ⟨some 7, .len (.t 6), none⟩, 
              ⟨some 8, .move (.c (.int .i64 0)), none⟩] false)
          (.block 0
            (.loop L54_0)))
        (.seq
          (.ops [⟨some 4, .move (.c (.int .i64 (-1))), none⟩] false)
          (.ret))) }

/- sequitur/term.is$1 -/
def F55 : AF :=
  { ntmps := 7, results := [.tmp 3], pure := true, body :=
    .seq
      (.ops [⟨some 2, .box 24 (.t 0), none⟩, 
          ⟨some 3, .move (.c (.bool false)), none⟩] false)
      (.seq
        (.ops [⟨some 4, .load true 4 (.t 1), none⟩, 
            ⟨some 5, .load true 4 (.t 2), none⟩, 
            ⟨some 6, .call 14 [.t 4, .t 5], none⟩, 
            ⟨some 3, .move (.t 6), none⟩] false)
        (.ret)) }

def T : Tab
  | 6 => some F6
  | 10 => some F10
  | 11 => some F11
  | 12 => some F12
  | 14 => some F14
  | 15 => some F15
  | 16 => some F16
  | 18 => some F18
  | 19 => some F19
  | 22 => some F22
  | 23 => some F23
  | 24 => some F24
  | 30 => some F30
  | 31 => some F31
  | 32 => some F32
  | 33 => some F33
  | 34 => some F34
  | 35 => some F35
  | 36 => some F36
  | 39 => some F39
  | 40 => some F40
  | 41 => some F41
  | 42 => some F42
  | 48 => some F48
  | 49 => some F49
  | 50 => some F50
  | 51 => some F51
  | 52 => some F52
  | 53 => some F53
  | 54 => some F54
  | 55 => some F55
  | _ => none

end Go.Proofs.Ytcoonnbkmklenaa.A
