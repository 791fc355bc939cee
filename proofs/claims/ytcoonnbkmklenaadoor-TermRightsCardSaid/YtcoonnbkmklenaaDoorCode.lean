/- The functions that the seat reaches, in the interpreter's own code (by gen.py from the loaded program; checked against it in the text behind). -/
import Derived.Test.YtcoonnbkmklenaaDoorAbs
namespace Go.Proofs.YtcoonnbkmklenaaDoor.A
open Go

/- sequitur/sequiturlaw07.TermRights -/
def F3 : AF :=
  { ntmps := 29, results := [.tmp 2], pure := true, body :=
    .seq
      (.ops [⟨some 1, .box 24 (.t 0), none⟩, 
          ⟨some 2, .move (.c (.bool false)), none⟩] false)
      (.seq
        (.seq
          (.ops [⟨some 3, .load true 4 (.t 1), none⟩, 
              ⟨some 4, .call 4 [.t 3, .c (.int .i64 20000)], none⟩, 
              ⟨some 5, .bin .gtr (.t 4) (.c (.int .i64 20000)), none⟩] false)
          (.cond (.t 5)
            (.seq
              (.ops [⟨some 6, .call 5 [], none⟩, 
                  ⟨some 2, .move (.t 6), none⟩] false)
              (.ret))
            (.skip)))
        (.seq
          (.ops [⟨some 7, .load true 4 (.t 1), none⟩, 
              ⟨some 8, .call 6 [.t 7], none⟩, 
              ⟨some 9, .load true 4 (.t 1), none⟩, 
              ⟨some 10, .call 7 [.t 9], none⟩, 
              ⟨some 11, .bin .eql (.t 8) (.t 10), none⟩, 
              ⟨some 12, .move (.t 11), none⟩, 
              ⟨some 13, .load true 4 (.t 1), some (12, true)⟩, 
              ⟨some 14, .call 8 [.t 13], some (12, true)⟩, 
              ⟨some 15, .load true 4 (.t 1), some (12, true)⟩, 
              ⟨some 16, .call 9 [.t 15], some (12, true)⟩, 
              ⟨some 17, .bin .eql (.t 14) (.t 16), some (12, true)⟩, 
              ⟨some 18, .pick (.t 12) (.t 17) (.c (.bool false)), none⟩, 
              ⟨some 19, .move (.t 18), none⟩, 
              ⟨some 20, .load true 4 (.t 1), some (19, true)⟩, 
              ⟨some 21, .call 10 [.t 20], some (19, true)⟩, 
              ⟨some 22, .load true 4 (.t 1), some (19, true)⟩, 
              ⟨some 23, .call 11 [.t 22], some (19, true)⟩, 
              ⟨some 24, .bin .eql (.t 21) (.t 23), some (19, true)⟩, 
              ⟨some 25, .pick (.t 19) (.t 24) (.c (.bool false)), none⟩, 
              ⟨some 26, .move (.t 25), none⟩, 
              ⟨some 27, .call 5 [], some (26, true)⟩, 
              ⟨some 28, .pick (.t 26) (.t 27) (.c (.bool false)), none⟩, 
              ⟨some 2, .move (.t 28), none⟩] true)
          (.ret))) }

/- sequitur/sequiturbase.Size -/
def L4_0 : AC :=
  .seq
    (.seq
      (.ops [⟨some 7, .move (.t 6), none⟩, 
          ⟨some 8, .fieldA 3 (.t 2), none⟩, 
          ⟨some 9, .load false 1 (.t 8), none⟩, 
          ⟨some 10, .len (.t 9), none⟩, 
          ⟨some 11, .bin .lss (.t 7) (.t 10), none⟩, 
          ⟨some 12, .move (.t 11), none⟩, 
          ⟨some 13, .move (.t 5), some (12, true)⟩, 
          ⟨some 14, .move (.t 1), some (12, true)⟩, 
          ⟨some 15, .bin .leq (.t 13) (.t 14), some (12, true)⟩, 
          ⟨some 16, .pick (.t 12) (.t 15) (.c (.bool false)), none⟩] false)
      (.cond (.t 16)
        (.skip)
        (.exit 0)))
    (.seq
      (.block 1
        (.ops [⟨some 19, .move (.t 5), none⟩, 
            ⟨some 20, .fieldA 3 (.t 2), none⟩, 
            ⟨some 21, .load false 1 (.t 20), none⟩, 
            ⟨some 22, .move (.t 6), none⟩, 
            ⟨some 23, .idxA 4 (.t 21) (.t 22), none⟩, 
            ⟨some 24, .load true 4 (.t 23), none⟩, 
            ⟨some 25, .move (.t 1), none⟩, 
            ⟨some 26, .move (.t 5), none⟩, 
            ⟨some 27, .bin .sub (.t 25) (.t 26), none⟩, 
            ⟨some 28, .call 4 [.t 24, .t 27], none⟩, 
            ⟨some 29, .bin .add (.t 19) (.t 28), none⟩, 
            ⟨some 5, .move (.t 29), none⟩] false))
      (.ops [⟨some 17, .move (.t 6), none⟩, 
          ⟨some 18, .bin .add (.t 17) (.c (.int .i64 1)), none⟩, 
          ⟨some 6, .move (.t 18), none⟩] false))
def F4 : AF :=
  { ntmps := 31, results := [.tmp 4], pure := true, body :=
    .seq
      (.ops [⟨some 2, .box 24 (.t 0), none⟩, 
          ⟨some 4, .move (.c (.int .i64 0)), none⟩] false)
      (.seq
        (.ops [⟨some 5, .move (.c (.int .i64 1)), none⟩] false)
        (.seq
          (.seq
            (.ops [⟨some 6, .move (.c (.int .i64 0)), none⟩] false)
            (.block 0
              (.loop L4_0)))
          (.seq
            (.ops [⟨some 30, .move (.t 5), none⟩, 
                ⟨some 4, .move (.t 30), none⟩] false)
            (.ret)))) }

/- sequitur/sequiturlaw07.goes -/
def F5 : AF :=
  { ntmps := 32, results := [.tmp 0], pure := true, body :=
    .seq
      (.ops [⟨some 0, .move (.c (.bool false)), none⟩] false)
      (.seq
        (.ops [⟨some 2, .build [.int .i64 0, .str ⟨#[]⟩, .int .i64 0, .fsl 4 []] [(0, 1, .c (.int .i64 1)), (1, 1, .c (.str ⟨#[120]⟩))], none⟩, 
            ⟨some 3, .build [.int .i64 0, .str ⟨#[]⟩, .int .i64 0, .fsl 4 []] [(0, 1, .c (.int .i64 4)), (2, 1, .c (.int .i64 3))], none⟩, 
            ⟨some 4, .buildSl 4 [.int .i64 0, .str ⟨#[]⟩, .int .i64 0, .fsl 4 []] 2 [(0, .t 2), (1, .t 3)], none⟩, 
            ⟨some 5, .build [.int .i64 0, .str ⟨#[]⟩, .int .i64 0, .fsl 4 []] [(0, 1, .c (.int .i64 3)), (1, 1, .c (.str ⟨#[102]⟩)), (3, 1, .t 4)], none⟩, 
            ⟨some 1, .alloc 24 [.int .i64 0, .str ⟨#[]⟩, .int .i64 0, .fsl 4 []], none⟩, 
            ⟨none, .store 4 (.t 1) (.t 5), none⟩] false)
        (.seq
          (.ops [⟨some 6, .load true 4 (.t 1), none⟩, 
              ⟨some 7, .call 8 [.t 6], none⟩, 
              ⟨some 8, .bin .eql (.t 7) (.c (.int .i64 3)), none⟩, 
              ⟨some 9, .move (.t 8), none⟩, 
              ⟨some 10, .load true 4 (.t 1), some (9, true)⟩, 
              ⟨some 11, .call 10 [.t 10], some (9, true)⟩, 
              ⟨some 12, .bin .eql (.t 11) (.c (.int .i64 2)), some (9, true)⟩, 
              ⟨some 13, .pick (.t 9) (.t 12) (.c (.bool false)), none⟩, 
              ⟨some 14, .move (.t 13), none⟩, 
              ⟨some 15, .load true 4 (.t 1), some (14, true)⟩, 
              ⟨some 16, .call 12 [.t 15], some (14, true)⟩, 
              ⟨some 17, .len (.t 16), some (14, true)⟩, 
              ⟨some 18, .bin .eql (.t 17) (.c (.int .i64 3)), some (14, true)⟩, 
              ⟨some 19, .pick (.t 14) (.t 18) (.c (.bool false)), none⟩, 
              ⟨some 20, .move (.t 19), none⟩, 
              ⟨some 21, .fieldA 3 (.t 1), some (20, true)⟩, 
              ⟨some 22, .load false 1 (.t 21), some (20, true)⟩, 
              ⟨some 23, .idxA 4 (.t 22) (.c (.int .i64 1)), some (20, true)⟩, 
              ⟨some 24, .load true 4 (.t 23), some (20, true)⟩, 
              ⟨some 25, .fieldA 3 (.t 1), some (20, true)⟩, 
              ⟨some 26, .load false 1 (.t 25), some (20, true)⟩, 
              ⟨some 27, .idxA 4 (.t 26) (.c (.int .i64 0)), some (20, true)⟩, 
              ⟨some 28, .load true 4 (.t 27), some (20, true)⟩, 
              ⟨some 29, .call 13 [.t 24, .t 28], some (20, true)⟩, 
              ⟨some 30, .bin .eql (.t 29) (.c (.int .i64 1)), some (20, true)⟩, 
              ⟨some 31, .pick (.t 20) (.t 30) (.c (.bool false)), none⟩, 
              ⟨some 0, .move (.t 31), none⟩] true)
          (.ret))) }

/- sequitur/term.Right -/
def A6_0 : AC :=
  .ops [⟨some 3, .alloc 24 [.int .i64 0, .str ⟨#[]⟩, .int .i64 0, .fsl 4 []], none⟩, 
      ⟨none, .store 4 (.t 3) (.t 15), none⟩] false

def B6_0 : AC :=
  .block 2
    (.seq
      (.ops [⟨some 16, .load true 4 (.t 3), none⟩, 
          ⟨some 17, .call 15 [.t 16], none⟩, 
          ⟨some 4, .move (.t 17), none⟩] false)
      (.seq
        (.ops [⟨some 18, .move (.t 4), none⟩, 
            ⟨some 19, .bin .neq (.t 18) (.c (.int .i64 0)), none⟩] false)
        (.cond (.t 19)
          (.seq
            (.ops [⟨some 20, .move (.t 4), none⟩, 
                ⟨none, .store 1 (.t 2) (.t 20), none⟩] false)
            (.ret))
          (.skip))))
def F6 : AF :=
  { ntmps := 21, results := [.cell 2 false 1], pure := true, body :=
    .seq
      (.ops [⟨some 1, .box 24 (.t 0), none⟩, 
          ⟨some 2, .alloc 27 [.int .i64 0], none⟩] false)
      (.seq
        (.block 0
          (.seq
            (.ops [⟨some 6, .load true 4 (.t 1), none⟩, 
                ⟨some 7, .call 10 [.t 6], none⟩, 
                ⟨some 8, .bin .gtr (.t 7) (.c (.int .i64 64)), none⟩, 
                ⟨some 5, .move (.t 8), none⟩] false)
            (.cond (.t 5)
              (.seq
                (.ops [⟨none, .store 1 (.t 2) (.c (.int .i64 6)), none⟩] false)
                (.ret))
              (.seq
                (.ops [⟨some 10, .load true 4 (.t 1), none⟩, 
                    ⟨some 11, .call 8 [.t 10], none⟩, 
                    ⟨some 12, .bin .gtr (.t 11) (.c (.int .i64 4096)), none⟩, 
                    ⟨some 9, .move (.t 12), none⟩] false)
                (.cond (.t 9)
                  (.seq
                    (.ops [⟨none, .store 1 (.t 2) (.c (.int .i64 2)), none⟩] false)
                    (.ret))
                  (.skip))))))
        (.seq
          (.seq
            (.ops [⟨some 13, .load true 4 (.t 1), none⟩, 
                ⟨some 14, .call 14 [.t 13], none⟩] false)
            (.block 1
              (.range (.t 14) [15] A6_0 B6_0)))
          (.seq
            (.ops [⟨none, .store 1 (.t 2) (.c (.int .i64 0)), none⟩] false)
            (.ret)))) }

/- sequitur/sequiturref07.Right -/
def F7 : AF :=
  { ntmps := 11, results := [.tmp 2], pure := true, body :=
    .seq
      (.ops [⟨some 1, .box 24 (.t 0), none⟩, 
          ⟨some 2, .move (.c (.int .i64 0)), none⟩] false)
      (.seq
        (.seq
          (.ops [⟨some 3, .load true 4 (.t 1), none⟩, 
              ⟨some 4, .call 11 [.t 3], none⟩, 
              ⟨some 5, .bin .gtr (.t 4) (.c (.int .i64 64)), none⟩] false)
          (.cond (.t 5)
            (.seq
              (.ops [⟨some 2, .move (.c (.int .i64 6)), none⟩] false)
              (.ret))
            (.skip)))
        (.seq
          (.seq
            (.ops [⟨some 6, .load true 4 (.t 1), none⟩, 
                ⟨some 7, .call 9 [.t 6], none⟩, 
                ⟨some 8, .bin .gtr (.t 7) (.c (.int .i64 4096)), none⟩] false)
            (.cond (.t 8)
              (.seq
                (.ops [⟨some 2, .move (.c (.int .i64 2)), none⟩] false)
                (.ret))
              (.skip)))
          (.seq
            (.ops [⟨some 9, .load true 4 (.t 1), none⟩, 
                ⟨some 10, .call 16 [.t 9], none⟩, 
                ⟨some 2, .move (.t 10), none⟩] false)
            (.ret)))) }

/- sequitur/term.Size -/
def A8_0 : AC :=
  .skip

def B8_0 : AC :=
  .block 1
    (.seq
      (.ops [⟨some 7, .load false 1 (.t 3), none⟩, 
          ⟨some 8, .bin .add (.t 7) (.c (.int .i64 1)), none⟩, 
          ⟨none, .store 1 (.t 3) (.t 8), none⟩] false)
      (.seq
        (.ops [⟨some 9, .load false 1 (.t 3), none⟩, 
            ⟨some 10, .bin .gtr (.t 9) (.c (.int .i64 4096)), none⟩] false)
        (.cond (.t 10)
          (.exit 0)
          (.skip))))
def F8 : AF :=
  { ntmps := 12, results := [.tmp 2], pure := true, body :=
    .seq
      (.ops [⟨some 1, .box 24 (.t 0), none⟩, 
          ⟨some 2, .move (.c (.int .i64 0)), none⟩] false)
      (.seq
        (.ops [⟨some 3, .alloc 3 [.int .i64 0], none⟩, 
            ⟨none, .store 1 (.t 3) (.c (.int .i64 0)), none⟩] false)
        (.seq
          (.seq
            (.ops [⟨some 4, .load true 4 (.t 1), none⟩, 
                ⟨some 5, .call 14 [.t 4], none⟩] false)
            (.block 0
              (.range (.t 5) [6] A8_0 B8_0)))
          (.seq
            (.ops [⟨some 11, .load false 1 (.t 3), none⟩, 
                ⟨some 2, .move (.t 11), none⟩] false)
            (.ret)))) }

/- sequitur/sequiturref07.Size -/
def F9 : AF :=
  { ntmps := 6, results := [.tmp 2], pure := true, body :=
    .seq
      (.ops [⟨some 1, .box 24 (.t 0), none⟩, 
          ⟨some 2, .move (.c (.int .i64 0)), none⟩] false)
      (.seq
        (.ops [⟨some 3, .load true 4 (.t 1), none⟩, 
            ⟨some 4, .call 4 [.t 3, .c (.int .i64 4096)], none⟩, 
            ⟨some 5, .min2 (.t 4) (.c (.int .i64 4097)), none⟩, 
            ⟨some 2, .move (.t 5), none⟩] false)
        (.ret)) }

/- sequitur/term.Depth -/
def F10 : AF :=
  { ntmps := 5, results := [.tmp 2], pure := true, body :=
    .seq
      (.ops [⟨some 1, .box 24 (.t 0), none⟩, 
          ⟨some 2, .move (.c (.int .i64 0)), none⟩] false)
      (.seq
        (.ops [⟨some 3, .load true 4 (.t 1), none⟩, 
            ⟨some 4, .call 17 [.t 3, .c (.int .i64 65)], none⟩, 
            ⟨some 2, .move (.t 4), none⟩] false)
        (.ret)) }

/- sequitur/sequiturref07.Depth -/
def F11 : AF :=
  { ntmps := 6, results := [.tmp 2], pure := true, body :=
    .seq
      (.ops [⟨some 1, .box 24 (.t 0), none⟩, 
          ⟨some 2, .move (.c (.int .i64 0)), none⟩] false)
      (.seq
        (.ops [⟨some 3, .load true 4 (.t 1), none⟩, 
            ⟨some 4, .call 18 [.t 3, .c (.int .i64 64)], none⟩, 
            ⟨some 5, .min2 (.t 4) (.c (.int .i64 65)), none⟩, 
            ⟨some 2, .move (.t 5), none⟩] false)
        (.ret)) }

/- sequitur/term.Parts -/
def A12_0 : AC :=
  .ops [⟨some 4, .alloc 24 [.int .i64 0, .str ⟨#[]⟩, .int .i64 0, .fsl 4 []], none⟩, 
      ⟨none, .store 4 (.t 4) (.t 7), none⟩] false

def B12_0 : AC :=
  .block 1
    (.seq
      (.ops [⟨some 8, .load false 1 (.t 3), none⟩, 
          ⟨some 9, .load true 4 (.t 4), none⟩, 
          ⟨some 10, .call 20 [.t 9], none⟩, 
          ⟨some 11, .call 19 [.t 8, .t 10], none⟩, 
          ⟨some 12, .not (.t 11), none⟩] true)
      (.cond (.t 12)
        (.ops [⟨some 13, .load false 1 (.t 3), none⟩, 
            ⟨some 14, .load true 4 (.t 4), none⟩, 
            ⟨some 15, .len (.t 13), none⟩, 
            ⟨some 16, .buildSl 4 [.int .i64 0, .str ⟨#[]⟩, .int .i64 0, .fsl 4 []] 1 [(0, .c (.agg [.int .i64 0, .str ⟨#[]⟩, .int .i64 0, .fsl 0 []]))], none⟩, 
            ⟨some 17, .append 24 4 56 (.t 13) (.t 16), none⟩, 
            ⟨some 18, .idxA 4 (.t 17) (.t 15), none⟩, 
            ⟨none, .store 4 (.t 18) (.t 14), none⟩, 
            ⟨none, .store 1 (.t 3) (.t 17), none⟩] true)
        (.skip)))
def F12 : AF :=
  { ntmps := 20, results := [.tmp 2], pure := true, body :=
    .seq
      (.ops [⟨some 1, .box 24 (.t 0), none⟩, 
          ⟨some 2, .move (.c (.fsl 4 [])), none⟩] false)
      (.seq
        (.ops [⟨some 3, .alloc 22 [.fsl 4 []], none⟩] false)
        (.seq
          (.seq
            (.ops [⟨some 5, .load true 4 (.t 1), none⟩, 
                ⟨some 6, .call 14 [.t 5], none⟩] false)
            (.block 0
              (.range (.t 6) [7] A12_0 B12_0)))
          (.seq
            (.ops [⟨some 19, .load false 1 (.t 3), none⟩, 
                ⟨some 2, .move (.t 19), none⟩] false)
            (.ret)))) }

/- sequitur/term.Compare -/
def F13 : AF :=
  { ntmps := 34, results := [.tmp 4], pure := true, body :=
    .seq
      (.ops [⟨some 2, .box 24 (.t 0), none⟩, 
          ⟨some 3, .box 24 (.t 1), none⟩, 
          ⟨some 4, .move (.c (.int .i64 0)), none⟩] false)
      (.seq
        (.ops [⟨some 5, .fieldA 0 (.t 2), none⟩, 
            ⟨some 6, .load false 1 (.t 5), none⟩, 
            ⟨some 7, .fieldA 0 (.t 3), none⟩, 
            ⟨some 8, .load false 1 (.t 7), none⟩, 
            ⟨some 9, .call 22 [.t 6, .t 8], none⟩, 
            ⟨some 10, .fieldA 2 (.t 2), none⟩, 
            ⟨some 11, .load false 1 (.t 10), none⟩, 
            ⟨some 12, .fieldA 2 (.t 3), none⟩, 
            ⟨some 13, .load false 1 (.t 12), none⟩, 
            ⟨some 14, .call 23 [.t 11, .t 13], none⟩, 
            ⟨some 15, .fieldA 1 (.t 2), none⟩, 
            ⟨some 16, .load false 1 (.t 15), none⟩, 
            ⟨some 17, .fieldA 1 (.t 3), none⟩, 
            ⟨some 18, .load false 1 (.t 17), none⟩, 
            ⟨some 19, .call 24 [.t 16, .t 18], none⟩, 
            ⟨some 20, .fieldA 3 (.t 2), none⟩, 
            ⟨some 21, .load false 1 (.t 20), none⟩, 
            ⟨some 22, .len (.t 21), none⟩, 
            ⟨some 23, .fieldA 3 (.t 3), none⟩, 
            ⟨some 24, .load false 1 (.t 23), none⟩, 
            ⟨some 25, .len (.t 24), none⟩, 
            ⟨some 26, .call 22 [.t 22, .t 25], none⟩, 
            ⟨some 27, .fieldA 3 (.t 2), none⟩, 
            ⟨some 28, .load false 1 (.t 27), none⟩, 
            ⟨some 29, .fieldA 3 (.t 3), none⟩, 
            ⟨some 30, .load false 1 (.t 29), none⟩, 
            ⟨some 31, .call 25 [.t 28, .t 30, .f 13], none⟩, 
            ⟨some 32, .buildSl 1 [.int .i64 0] 5 [(0, .t 9), (1, .t 14), (2, .t 19), (3, .t 26), (4, .t 31)], none⟩, 
            ⟨some 33, .call 21 [.t 32], none⟩, 
            ⟨some 4, .move (.t 33), none⟩] true)
        (.ret)) }

/- sequitur/term.all -/
def F14 : AF :=
  { ntmps := 4, results := [.tmp 2], pure := true, body :=
    .seq
      (.ops [⟨some 1, .box 24 (.t 0), none⟩, 
          ⟨some 2, .move (.c (.nilf)), none⟩] false)
      (.seq
        (.ops [⟨some 3, .mkfn (.func 26) [] [.t 1], none⟩, 
            ⟨some 2, .move (.t 3), none⟩] false)
        (.ret)) }

/- sequitur/term.part -/
def F15 : AF :=
  { ntmps := 86, results := [.tmp 2], pure := true, body :=
    .seq
      (.ops [⟨some 1, .box 24 (.t 0), none⟩, 
          ⟨some 2, .move (.c (.int .i64 0)), none⟩] false)
      (.seq
        (.ops [⟨some 5, .fieldA 0 (.t 1), none⟩, 
            ⟨some 6, .load false 1 (.t 5), none⟩, 
            ⟨some 7, .bin .eql (.t 6) (.c (.int .i64 1)), none⟩, 
            ⟨some 8, .move (.t 7), none⟩, 
            ⟨some 9, .fieldA 0 (.t 1), some (8, false)⟩, 
            ⟨some 10, .load false 1 (.t 9), some (8, false)⟩, 
            ⟨some 11, .bin .eql (.t 10) (.c (.int .i64 3)), some (8, false)⟩, 
            ⟨some 12, .pick (.t 8) (.c (.bool true)) (.t 11), none⟩, 
            ⟨some 3, .move (.t 12), none⟩] false)
        (.seq
          (.ops [⟨some 13, .fieldA 0 (.t 1), none⟩, 
              ⟨some 14, .load false 1 (.t 13), none⟩, 
              ⟨some 15, .bin .eql (.t 14) (.c (.int .i64 2)), none⟩, 
              ⟨some 16, .move (.t 15), none⟩, 
              ⟨some 17, .fieldA 0 (.t 1), some (16, false)⟩, 
              ⟨some 18, .load false 1 (.t 17), some (16, false)⟩, 
              ⟨some 19, .bin .eql (.t 18) (.c (.int .i64 4)), some (16, false)⟩, 
              ⟨some 20, .pick (.t 16) (.c (.bool true)) (.t 19), none⟩, 
              ⟨some 21, .move (.t 20), none⟩, 
              ⟨some 22, .fieldA 0 (.t 1), some (21, false)⟩, 
              ⟨some 23, .load false 1 (.t 22), some (21, false)⟩, 
              ⟨some 24, .bin .eql (.t 23) (.c (.int .i64 8)), some (21, false)⟩, 
              ⟨some 25, .pick (.t 21) (.c (.bool true)) (.t 24), none⟩, 
              ⟨some 4, .move (.t 25), none⟩] false)
          (.seq
            (.block 0
              (.seq
                (.ops [⟨some 27, .fieldA 0 (.t 1), none⟩, 
                    ⟨some 28, .load false 1 (.t 27), none⟩, 
                    ⟨some 29, .bin .lss (.t 28) (.c (.int .i64 1)), none⟩, 
                    ⟨some 30, .move (.t 29), none⟩, 
                    ⟨some 31, .fieldA 0 (.t 1), some (30, false)⟩, 
                    ⟨some 32, .load false 1 (.t 31), some (30, false)⟩, 
                    ⟨some 33, .bin .gtr (.t 32) (.c (.int .i64 8)), some (30, false)⟩, 
                    ⟨some 34, .pick (.t 30) (.c (.bool true)) (.t 33), none⟩, 
                    ⟨some 26, .move (.t 34), none⟩] false)
                (.cond (.t 26)
                  (.seq
                    (.ops [⟨some 2, .move (.c (.int .i64 7)), none⟩] false)
                    (.ret))
                  (.seq
                    (.ops [⟨some 36, .fieldA 1 (.t 1), none⟩, 
                        ⟨some 37, .load false 1 (.t 36), none⟩, 
                        ⟨some 38, .bin .neq (.t 37) (.c (.str ⟨#[]⟩)), none⟩, 
                        ⟨some 39, .move (.t 38), none⟩, 
                        ⟨some 40, .move (.t 3), some (39, true)⟩, 
                        ⟨some 41, .not (.t 40), some (39, true)⟩, 
                        ⟨some 42, .pick (.t 39) (.t 41) (.c (.bool false)), none⟩, 
                        ⟨some 43, .move (.t 42), none⟩, 
                        ⟨some 44, .fieldA 2 (.t 1), some (43, false)⟩, 
                        ⟨some 45, .load false 1 (.t 44), some (43, false)⟩, 
                        ⟨some 46, .bin .neq (.t 45) (.c (.int .i64 0)), some (43, false)⟩, 
                        ⟨some 47, .move (.t 46), some (43, false)⟩, 
                        ⟨some 48, .move (.t 4), some (47, true)⟩, 
                        ⟨some 49, .not (.t 48), some (47, true)⟩, 
                        ⟨some 50, .pick (.t 47) (.t 49) (.c (.bool false)), some (43, false)⟩, 
                        ⟨some 51, .pick (.t 43) (.c (.bool true)) (.t 50), none⟩, 
                        ⟨some 52, .move (.t 51), none⟩, 
                        ⟨some 53, .fieldA 0 (.t 1), some (52, false)⟩, 
                        ⟨some 54, .load false 1 (.t 53), some (52, false)⟩, 
                        ⟨some 55, .bin .eql (.t 54) (.c (.int .i64 2)), some (52, false)⟩, 
                        ⟨some 56, .move (.t 55), some (52, false)⟩, 
                        ⟨some 57, .fieldA 2 (.t 1), some (56, true)⟩, 
                        ⟨some 58, .load false 1 (.t 57), some (56, true)⟩, 
                        ⟨some 59, .bin .lss (.t 58) (.c (.int .i64 0)), some (56, true)⟩, 
                        ⟨some 60, .pick (.t 56) (.t 59) (.c (.bool false)), some (52, false)⟩, 
                        ⟨some 61, .pick (.t 52) (.c (.bool true)) (.t 60), none⟩, 
                        ⟨some 35, .move (.t 61), none⟩] false)
                    (.cond (.t 35)
                      (.seq
                        (.ops [⟨some 2, .move (.c (.int .i64 7)), none⟩] false)
                        (.ret))
                      (.seq
                        (.ops [⟨some 63, .fieldA 3 (.t 1), none⟩, 
                            ⟨some 64, .load false 1 (.t 63), none⟩, 
                            ⟨some 65, .len (.t 64), none⟩, 
                            ⟨some 66, .fieldA 0 (.t 1), none⟩, 
                            ⟨some 67, .load false 1 (.t 66), none⟩, 
                            ⟨some 68, .idxArrA 9 1 (.g 0) (.t 67), none⟩, 
                            ⟨some 69, .load false 1 (.t 68), none⟩, 
                            ⟨some 70, .bin .gtr (.t 65) (.t 69), none⟩, 
                            ⟨some 71, .move (.t 70), none⟩, 
                            ⟨some 72, .fieldA 0 (.t 1), some (71, false)⟩, 
                            ⟨some 73, .load false 1 (.t 72), some (71, false)⟩, 
                            ⟨some 74, .bin .neq (.t 73) (.c (.int .i64 3)), some (71, false)⟩, 
                            ⟨some 75, .move (.t 74), some (71, false)⟩, 
                            ⟨some 76, .fieldA 3 (.t 1), some (75, true)⟩, 
                            ⟨some 77, .load false 1 (.t 76), some (75, true)⟩, 
                            ⟨some 78, .len (.t 77), some (75, true)⟩, 
                            ⟨some 79, .fieldA 0 (.t 1), some (75, true)⟩, 
                            ⟨some 80, .load false 1 (.t 79), some (75, true)⟩, 
                            ⟨some 81, .idxArrA 9 1 (.g 0) (.t 80), some (75, true)⟩, 
                            ⟨some 82, .load false 1 (.t 81), some (75, true)⟩, 
                            ⟨some 83, .bin .neq (.t 78) (.t 82), some (75, true)⟩, 
                            ⟨some 84, .pick (.t 75) (.t 83) (.c (.bool false)), some (71, false)⟩, 
                            ⟨some 85, .pick (.t 71) (.c (.bool true)) (.t 84), none⟩, 
                            ⟨some 62, .move (.t 85), none⟩] true)
                        (.cond (.t 62)
                          (.seq
                            (.ops [⟨some 2, .move (.c (.int .i64 12)), none⟩] false)
                            (.ret))
                          (.skip))))))))
            (.seq
              (.ops [⟨some 2, .move (.c (.int .i64 0)), none⟩] false)
              (.ret))))) }

/- sequitur/sequiturref07.part -/
def L16_0 : AC :=
  .seq
    (.seq
      (.ops [⟨some 75, .move (.t 4), none⟩, 
          ⟨some 76, .fieldA 3 (.t 1), none⟩, 
          ⟨some 77, .load false 1 (.t 76), none⟩, 
          ⟨some 78, .len (.t 77), none⟩, 
          ⟨some 79, .bin .lss (.t 75) (.t 78), none⟩] false)
      (.cond (.t 79)
        (.skip)
        (.exit 0)))
    (.seq
      (.block 1
        (.seq
          (.ops [⟨some 82, .fieldA 3 (.t 1), none⟩, 
              ⟨some 83, .load false 1 (.t 82), none⟩, 
              ⟨some 84, .move (.t 4), none⟩, 
              ⟨some 85, .idxA 4 (.t 83) (.t 84), none⟩, 
              ⟨some 86, .load true 4 (.t 85), none⟩, 
              ⟨some 87, .call 16 [.t 86], none⟩, 
              ⟨some 5, .move (.t 87), none⟩] false)
          (.seq
            (.ops [⟨some 88, .move (.t 5), none⟩, 
                ⟨some 89, .bin .neq (.t 88) (.c (.int .i64 0)), none⟩] false)
            (.cond (.t 89)
              (.seq
                (.ops [⟨some 90, .move (.t 5), none⟩, 
                    ⟨some 2, .move (.t 90), none⟩] false)
                (.ret))
              (.skip)))))
      (.ops [⟨some 80, .move (.t 4), none⟩, 
          ⟨some 81, .bin .add (.t 80) (.c (.int .i64 1)), none⟩, 
          ⟨some 4, .move (.t 81), none⟩] false))
def F16 : AF :=
  { ntmps := 91, results := [.tmp 2], pure := true, body :=
    .seq
      (.ops [⟨some 1, .box 24 (.t 0), none⟩, 
          ⟨some 2, .move (.c (.int .i64 0)), none⟩] false)
      (.seq
        (.seq
          (.ops [⟨some 6, .fieldA 0 (.t 1), none⟩, 
              ⟨some 7, .load false 1 (.t 6), none⟩, 
              ⟨some 8, .bin .lss (.t 7) (.c (.int .i64 1)), none⟩, 
              ⟨some 9, .move (.t 8), none⟩, 
              ⟨some 10, .fieldA 0 (.t 1), some (9, false)⟩, 
              ⟨some 11, .load false 1 (.t 10), some (9, false)⟩, 
              ⟨some 12, .bin .gtr (.t 11) (.c (.int .i64 8)), some (9, false)⟩, 
              ⟨some 13, .pick (.t 9) (.c (.bool true)) (.t 12), none⟩, 
              ⟨some 14, .move (.t 13), none⟩, 
              ⟨some 15, .fieldA 0 (.t 1), some (14, false)⟩, 
              ⟨some 16, .load false 1 (.t 15), some (14, false)⟩, 
              ⟨some 17, .bin .eql (.t 16) (.c (.int .i64 2)), some (14, false)⟩, 
              ⟨some 18, .move (.t 17), some (14, false)⟩, 
              ⟨some 19, .fieldA 2 (.t 1), some (18, true)⟩, 
              ⟨some 20, .load false 1 (.t 19), some (18, true)⟩, 
              ⟨some 21, .bin .lss (.t 20) (.c (.int .i64 0)), some (18, true)⟩, 
              ⟨some 22, .pick (.t 18) (.t 21) (.c (.bool false)), some (14, false)⟩, 
              ⟨some 23, .pick (.t 14) (.c (.bool true)) (.t 22), none⟩] false)
          (.cond (.t 23)
            (.seq
              (.ops [⟨some 2, .move (.c (.int .i64 7)), none⟩] false)
              (.ret))
            (.skip)))
        (.seq
          (.seq
            (.ops [⟨some 24, .fieldA 0 (.t 1), none⟩, 
                ⟨some 25, .load false 1 (.t 24), none⟩, 
                ⟨some 26, .bin .neq (.t 25) (.c (.int .i64 2)), none⟩, 
                ⟨some 27, .move (.t 26), none⟩, 
                ⟨some 28, .fieldA 0 (.t 1), some (27, true)⟩, 
                ⟨some 29, .load false 1 (.t 28), some (27, true)⟩, 
                ⟨some 30, .bin .neq (.t 29) (.c (.int .i64 4)), some (27, true)⟩, 
                ⟨some 31, .pick (.t 27) (.t 30) (.c (.bool false)), none⟩, 
                ⟨some 32, .move (.t 31), none⟩, 
                ⟨some 33, .fieldA 0 (.t 1), some (32, true)⟩, 
                ⟨some 34, .load false 1 (.t 33), some (32, true)⟩, 
                ⟨some 35, .bin .neq (.t 34) (.c (.int .i64 8)), some (32, true)⟩, 
                ⟨some 36, .pick (.t 32) (.t 35) (.c (.bool false)), none⟩, 
                ⟨some 37, .move (.t 36), none⟩, 
                ⟨some 38, .fieldA 2 (.t 1), some (37, true)⟩, 
                ⟨some 39, .load false 1 (.t 38), some (37, true)⟩, 
                ⟨some 40, .bin .neq (.t 39) (.c (.int .i64 0)), some (37, true)⟩, 
                ⟨some 41, .pick (.t 37) (.t 40) (.c (.bool false)), none⟩, 
                ⟨some 42, .move (.t 41), none⟩, 
                ⟨some 43, .fieldA 0 (.t 1), some (42, false)⟩, 
                ⟨some 44, .load false 1 (.t 43), some (42, false)⟩, 
                ⟨some 45, .bin .neq (.t 44) (.c (.int .i64 1)), some (42, false)⟩, 
                ⟨some 46, .move (.t 45), some (42, false)⟩, 
                ⟨some 47, .fieldA 0 (.t 1), some (46, true)⟩, 
                ⟨some 48, .load false 1 (.t 47), some (46, true)⟩, 
                ⟨some 49, .bin .neq (.t 48) (.c (.int .i64 3)), some (46, true)⟩, 
                ⟨some 50, .pick (.t 46) (.t 49) (.c (.bool false)), some (42, false)⟩, 
                ⟨some 51, .move (.t 50), some (42, false)⟩, 
                ⟨some 52, .fieldA 1 (.t 1), some (51, true)⟩, 
                ⟨some 53, .load false 1 (.t 52), some (51, true)⟩, 
                ⟨some 54, .bin .neq (.t 53) (.c (.str ⟨#[]⟩)), some (51, true)⟩, 
                ⟨some 55, .pick (.t 51) (.t 54) (.c (.bool false)), some (42, false)⟩, 
                ⟨some 56, .pick (.t 42) (.c (.bool true)) (.t 55), none⟩] false)
            (.cond (.t 56)
              (.seq
                (.ops [⟨some 2, .move (.c (.int .i64 7)), none⟩] false)
                (.ret))
              (.skip)))
          (.seq
            (.ops [⟨some 57, .fieldA 0 (.t 1), none⟩, 
                ⟨some 58, .load false 1 (.t 57), none⟩, 
                ⟨some 59, .call 28 [.t 58], none⟩, 
                ⟨some 3, .move (.t 59), none⟩] false)
            (.seq
              (.seq
                (.ops [⟨some 60, .move (.t 3), none⟩, 
                    ⟨some 61, .bin .geq (.t 60) (.c (.int .i64 0)), none⟩, 
                    ⟨some 62, .move (.t 61), none⟩, 
                    ⟨some 63, .fieldA 3 (.t 1), some (62, true)⟩, 
                    ⟨some 64, .load false 1 (.t 63), some (62, true)⟩, 
                    ⟨some 65, .len (.t 64), some (62, true)⟩, 
                    ⟨some 66, .move (.t 3), some (62, true)⟩, 
                    ⟨some 67, .bin .neq (.t 65) (.t 66), some (62, true)⟩, 
                    ⟨some 68, .pick (.t 62) (.t 67) (.c (.bool false)), none⟩, 
                    ⟨some 69, .move (.t 68), none⟩, 
                    ⟨some 70, .fieldA 3 (.t 1), some (69, false)⟩, 
                    ⟨some 71, .load false 1 (.t 70), some (69, false)⟩, 
                    ⟨some 72, .len (.t 71), some (69, false)⟩, 
                    ⟨some 73, .bin .gtr (.t 72) (.c (.int .i64 8)), some (69, false)⟩, 
                    ⟨some 74, .pick (.t 69) (.c (.bool true)) (.t 73), none⟩] false)
                (.cond (.t 74)
                  (.seq
                    (.ops [⟨some 2, .move (.c (.int .i64 12)), none⟩] false)
                    (.ret))
                  (.skip)))
              (.seq
                (.seq
                  (.ops [⟨some 4, .move (.c (.int .i64 0)), none⟩] false)
                  (.block 0
                    (.loop L16_0)))
                (.seq
                  (.ops [⟨some 2, .move (.c (.int .i64 0)), none⟩] false)
                  (.ret))))))) }

/- sequitur/term.depth -/
def L17_0 : AC :=
  .seq
    (.ops [⟨some 14, .bin .lss (.t 13) (.t 12), none⟩] false)
    (.seq
      (.cond (.t 14)
        (.skip)
        (.exit 0))
      (.seq
        (.block 1
          (.seq
            (.ops [⟨some 15, .idxA 4 (.t 11) (.t 13), none⟩, 
                ⟨some 16, .load true 4 (.t 15), none⟩, 
                ⟨some 7, .alloc 24 [.int .i64 0, .str ⟨#[]⟩, .int .i64 0, .fsl 4 []], none⟩, 
                ⟨none, .store 4 (.t 7) (.t 16), none⟩] false)
            (.ops [⟨some 17, .move (.t 5), none⟩, 
                ⟨some 18, .load true 4 (.t 7), none⟩, 
                ⟨some 19, .move (.t 1), none⟩, 
                ⟨some 20, .bin .sub (.t 19) (.c (.int .i64 1)), none⟩, 
                ⟨some 21, .call 17 [.t 18, .t 20], none⟩, 
                ⟨some 22, .max2 (.t 17) (.t 21), none⟩, 
                ⟨some 5, .move (.t 22), none⟩] false)))
        (.ops [⟨some 23, .bin .add (.t 13) (.c (.int .i64 1)), none⟩, 
            ⟨some 13, .move (.t 23), none⟩] false)))
def F17 : AF :=
  { ntmps := 26, results := [.tmp 4], pure := true, body :=
    .seq
      (.ops [⟨some 2, .box 24 (.t 0), none⟩, 
          ⟨some 4, .move (.c (.int .i64 0)), none⟩] false)
      (.seq
        (.seq
          (.ops [⟨some 8, .move (.t 1), none⟩, 
              ⟨some 9, .bin .leq (.t 8) (.c (.int .i64 1)), none⟩] false)
          (.cond (.t 9)
            (.seq
              (.ops [⟨some 4, .move (.c (.int .i64 1)), none⟩] false)
              (.ret))
            (.skip)))
        (.seq
          (.ops [⟨some 5, .move (.c (.int .i64 0)), none⟩] false)
          (.seq
            (.seq
              (.ops [⟨some 10, .fieldA 3 (.t 2), none⟩, 
                  ⟨some 11, .load false 1 (.t 10), none⟩, 
                  ⟨some 12, .len (.t 11), none⟩, 
                  ⟨some 13, .move (.c (.int .i64 0)), none⟩] false)
              (.block 0
                (.loop L17_0)))
            (.seq
              (.ops [⟨some 24, .move (.t 5), none⟩, 
                  ⟨some 25, .bin .add (.t 24) (.c (.int .i64 1)), none⟩, 
                  ⟨some 4, .move (.t 25), none⟩] false)
              (.ret))))) }

/- sequitur/sequiturref07.depth -/
def L18_0 : AC :=
  .seq
    (.seq
      (.ops [⟨some 7, .move (.t 6), none⟩, 
          ⟨some 8, .fieldA 3 (.t 2), none⟩, 
          ⟨some 9, .load false 1 (.t 8), none⟩, 
          ⟨some 10, .len (.t 9), none⟩, 
          ⟨some 11, .bin .lss (.t 7) (.t 10), none⟩, 
          ⟨some 12, .move (.t 11), none⟩, 
          ⟨some 13, .move (.t 5), some (12, true)⟩, 
          ⟨some 14, .move (.t 1), some (12, true)⟩, 
          ⟨some 15, .bin .leq (.t 13) (.t 14), some (12, true)⟩, 
          ⟨some 16, .pick (.t 12) (.t 15) (.c (.bool false)), none⟩] false)
      (.cond (.t 16)
        (.skip)
        (.exit 0)))
    (.seq
      (.block 1
        (.ops [⟨some 19, .move (.t 5), none⟩, 
            ⟨some 20, .fieldA 3 (.t 2), none⟩, 
            ⟨some 21, .load false 1 (.t 20), none⟩, 
            ⟨some 22, .move (.t 6), none⟩, 
            ⟨some 23, .idxA 4 (.t 21) (.t 22), none⟩, 
            ⟨some 24, .load true 4 (.t 23), none⟩, 
            ⟨some 25, .move (.t 1), none⟩, 
            ⟨some 26, .bin .sub (.t 25) (.c (.int .i64 1)), none⟩, 
            ⟨some 27, .call 18 [.t 24, .t 26], none⟩, 
            ⟨some 28, .bin .add (.c (.int .i64 1)) (.t 27), none⟩, 
            ⟨some 29, .max2 (.t 19) (.t 28), none⟩, 
            ⟨some 5, .move (.t 29), none⟩] false))
      (.ops [⟨some 17, .move (.t 6), none⟩, 
          ⟨some 18, .bin .add (.t 17) (.c (.int .i64 1)), none⟩, 
          ⟨some 6, .move (.t 18), none⟩] false))
def F18 : AF :=
  { ntmps := 31, results := [.tmp 4], pure := true, body :=
    .seq
      (.ops [⟨some 2, .box 24 (.t 0), none⟩, 
          ⟨some 4, .move (.c (.int .i64 0)), none⟩] false)
      (.seq
        (.ops [⟨some 5, .move (.c (.int .i64 1)), none⟩] false)
        (.seq
          (.seq
            (.ops [⟨some 6, .move (.c (.int .i64 0)), none⟩] false)
            (.block 0
              (.loop L18_0)))
          (.seq
            (.ops [⟨some 30, .move (.t 5), none⟩, 
                ⟨some 4, .move (.t 30), none⟩] false)
            (.ret)))) }

/- slices.ContainsFunc[[]sequitur/api.Term,sequitur/api.Term] -/
def F19 : AF :=
  { ntmps := 9, results := [.tmp 4], pure := true, body :=
    .seq
      (.ops [⟨some 4, .move (.c (.bool false)), none⟩] false)
      (.seq
        (.ops [⟨some 5, .move (.t 0), none⟩, 
            ⟨some 6, .move (.t 1), none⟩, 
            ⟨some 7, .call 29 [.t 5, .t 6], none⟩, 
            ⟨some 8, .bin .geq (.t 7) (.c (.int .i64 0)), none⟩, 
            ⟨some 4, .move (.t 8), none⟩] false)
        (.ret)) }

/- sequitur/term.is -/
def F20 : AF :=
  { ntmps := 4, results := [.tmp 2], pure := true, body :=
    .seq
      (.ops [⟨some 1, .box 24 (.t 0), none⟩, 
          ⟨some 2, .move (.c (.nilf)), none⟩] false)
      (.seq
        (.ops [⟨some 3, .mkfn (.func 30) [] [.t 1], none⟩, 
            ⟨some 2, .move (.t 3), none⟩] false)
        (.ret)) }

/- cmp.Or[int] -/
def L21_0 : AC :=
  .seq
    (.ops [⟨some 9, .bin .lss (.t 8) (.t 7), none⟩] false)
    (.seq
      (.cond (.t 9)
        (.skip)
        (.exit 0))
      (.seq
        (.block 1
          (.seq
            (.ops [⟨some 10, .idxA 1 (.t 6) (.t 8), none⟩, 
                ⟨some 11, .load false 1 (.t 10), none⟩, 
                ⟨some 5, .move (.t 11), none⟩] false)
            (.seq
              (.ops [⟨some 12, .move (.t 5), none⟩, 
                  ⟨some 13, .move (.t 3), none⟩, 
                  ⟨some 14, .bin .neq (.t 12) (.t 13), none⟩] false)
              (.cond (.t 14)
                (.seq
                  (.ops [⟨some 15, .move (.t 5), none⟩, 
                      ⟨some 2, .move (.t 15), none⟩] false)
                  (.ret))
                (.skip)))))
        (.ops [⟨some 16, .bin .add (.t 8) (.c (.int .i64 1)), none⟩, 
            ⟨some 8, .move (.t 16), none⟩] false)))
def F21 : AF :=
  { ntmps := 18, results := [.tmp 2], pure := true, body :=
    .seq
      (.ops [⟨some 2, .move (.c (.int .i64 0)), none⟩] false)
      (.seq
        (.ops [⟨some 3, .move (.c (.int .i64 0)), none⟩] false)
        (.seq
          (.seq
            (.ops [⟨some 6, .move (.t 0), none⟩, 
                ⟨some 7, .len (.t 6), none⟩, 
                ⟨some 8, .move (.c (.int .i64 0)), none⟩] false)
            (.block 0
              (.loop L21_0)))
          (.seq
            (.ops [⟨some 17, .move (.t 3), none⟩, 
                ⟨some 2, .move (.t 17), none⟩] false)
            (.ret)))) }

/- cmp.Compare[int] -/
def F22 : AF :=
  { ntmps := 20, results := [.tmp 4], pure := true, body :=
    .seq
      (.ops [⟨some 4, .move (.c (.int .i64 0)), none⟩] false)
      (.seq
        (.ops [⟨some 7, .move (.t 0), none⟩, 
            ⟨some 8, .call 32 [.t 7], none⟩, 
            ⟨some 5, .move (.t 8), none⟩] false)
        (.seq
          (.ops [⟨some 9, .move (.t 1), none⟩, 
              ⟨some 10, .call 32 [.t 9], none⟩, 
              ⟨some 6, .move (.t 10), none⟩] false)
          (.seq
            (.seq
              (.ops [⟨some 11, .move (.t 5), none⟩] false)
              (.cond (.t 11)
                (.seq
                  (.seq
                    (.ops [⟨some 12, .move (.t 6), none⟩] false)
                    (.cond (.t 12)
                      (.seq
                        (.ops [⟨some 4, .move (.c (.int .i64 0)), none⟩] false)
                        (.ret))
                      (.skip)))
                  (.seq
                    (.ops [⟨some 4, .move (.c (.int .i64 (-1))), none⟩] false)
                    (.ret)))
                (.skip)))
            (.seq
              (.seq
                (.ops [⟨some 13, .move (.t 6), none⟩] false)
                (.cond (.t 13)
                  (.seq
                    (.ops [⟨some 4, .move (.c (.int .i64 1)), none⟩] false)
                    (.ret))
                  (.skip)))
              (.seq
                (.seq
                  (.ops [⟨some 14, .move (.t 0), none⟩, 
                      ⟨some 15, .move (.t 1), none⟩, 
                      ⟨some 16, .bin .lss (.t 14) (.t 15), none⟩] false)
                  (.cond (.t 16)
                    (.seq
                      (.ops [⟨some 4, .move (.c (.int .i64 (-1))), none⟩] false)
                      (.ret))
                    (.skip)))
                (.seq
                  (.seq
                    (.ops [⟨some 17, .move (.t 0), none⟩, 
                        ⟨some 18, .move (.t 1), none⟩, 
                        ⟨some 19, .bin .gtr (.t 17) (.t 18), none⟩] false)
                    (.cond (.t 19)
                      (.seq
                        (.ops [⟨some 4, .move (.c (.int .i64 1)), none⟩] false)
                        (.ret))
                      (.skip)))
                  (.seq
                    (.ops [⟨some 4, .move (.c (.int .i64 0)), none⟩] false)
                    (.ret)))))))) }

/- cmp.Compare[int64] -/
def F23 : AF :=
  { ntmps := 20, results := [.tmp 4], pure := true, body :=
    .seq
      (.ops [⟨some 4, .move (.c (.int .i64 0)), none⟩] false)
      (.seq
        (.ops [⟨some 7, .move (.t 0), none⟩, 
            ⟨some 8, .call 33 [.t 7], none⟩, 
            ⟨some 5, .move (.t 8), none⟩] false)
        (.seq
          (.ops [⟨some 9, .move (.t 1), none⟩, 
              ⟨some 10, .call 33 [.t 9], none⟩, 
              ⟨some 6, .move (.t 10), none⟩] false)
          (.seq
            (.seq
              (.ops [⟨some 11, .move (.t 5), none⟩] false)
              (.cond (.t 11)
                (.seq
                  (.seq
                    (.ops [⟨some 12, .move (.t 6), none⟩] false)
                    (.cond (.t 12)
                      (.seq
                        (.ops [⟨some 4, .move (.c (.int .i64 0)), none⟩] false)
                        (.ret))
                      (.skip)))
                  (.seq
                    (.ops [⟨some 4, .move (.c (.int .i64 (-1))), none⟩] false)
                    (.ret)))
                (.skip)))
            (.seq
              (.seq
                (.ops [⟨some 13, .move (.t 6), none⟩] false)
                (.cond (.t 13)
                  (.seq
                    (.ops [⟨some 4, .move (.c (.int .i64 1)), none⟩] false)
                    (.ret))
                  (.skip)))
              (.seq
                (.seq
                  (.ops [⟨some 14, .move (.t 0), none⟩, 
                      ⟨some 15, .move (.t 1), none⟩, 
                      ⟨some 16, .bin .lss (.t 14) (.t 15), none⟩] false)
                  (.cond (.t 16)
                    (.seq
                      (.ops [⟨some 4, .move (.c (.int .i64 (-1))), none⟩] false)
                      (.ret))
                    (.skip)))
                (.seq
                  (.seq
                    (.ops [⟨some 17, .move (.t 0), none⟩, 
                        ⟨some 18, .move (.t 1), none⟩, 
                        ⟨some 19, .bin .gtr (.t 17) (.t 18), none⟩] false)
                    (.cond (.t 19)
                      (.seq
                        (.ops [⟨some 4, .move (.c (.int .i64 1)), none⟩] false)
                        (.ret))
                      (.skip)))
                  (.seq
                    (.ops [⟨some 4, .move (.c (.int .i64 0)), none⟩] false)
                    (.ret)))))))) }

/- cmp.Compare[string] -/
def F24 : AF :=
  { ntmps := 20, results := [.tmp 4], pure := true, body :=
    .seq
      (.ops [⟨some 4, .move (.c (.int .i64 0)), none⟩] false)
      (.seq
        (.ops [⟨some 7, .move (.t 0), none⟩, 
            ⟨some 8, .call 34 [.t 7], none⟩, 
            ⟨some 5, .move (.t 8), none⟩] false)
        (.seq
          (.ops [⟨some 9, .move (.t 1), none⟩, 
              ⟨some 10, .call 34 [.t 9], none⟩, 
              ⟨some 6, .move (.t 10), none⟩] false)
          (.seq
            (.seq
              (.ops [⟨some 11, .move (.t 5), none⟩] false)
              (.cond (.t 11)
                (.seq
                  (.seq
                    (.ops [⟨some 12, .move (.t 6), none⟩] false)
                    (.cond (.t 12)
                      (.seq
                        (.ops [⟨some 4, .move (.c (.int .i64 0)), none⟩] false)
                        (.ret))
                      (.skip)))
                  (.seq
                    (.ops [⟨some 4, .move (.c (.int .i64 (-1))), none⟩] false)
                    (.ret)))
                (.skip)))
            (.seq
              (.seq
                (.ops [⟨some 13, .move (.t 6), none⟩] false)
                (.cond (.t 13)
                  (.seq
                    (.ops [⟨some 4, .move (.c (.int .i64 1)), none⟩] false)
                    (.ret))
                  (.skip)))
              (.seq
                (.seq
                  (.ops [⟨some 14, .move (.t 0), none⟩, 
                      ⟨some 15, .move (.t 1), none⟩, 
                      ⟨some 16, .bin .lss (.t 14) (.t 15), none⟩] false)
                  (.cond (.t 16)
                    (.seq
                      (.ops [⟨some 4, .move (.c (.int .i64 (-1))), none⟩] false)
                      (.ret))
                    (.skip)))
                (.seq
                  (.seq
                    (.ops [⟨some 17, .move (.t 0), none⟩, 
                        ⟨some 18, .move (.t 1), none⟩, 
                        ⟨some 19, .bin .gtr (.t 17) (.t 18), none⟩] false)
                    (.cond (.t 19)
                      (.seq
                        (.ops [⟨some 4, .move (.c (.int .i64 1)), none⟩] false)
                        (.ret))
                      (.skip)))
                  (.seq
                    (.ops [⟨some 4, .move (.c (.int .i64 0)), none⟩] false)
                    (.ret)))))))) }

/- slices.CompareFunc[[]sequitur/api.Term,[]sequitur/api.Term,sequitur/api.Term,sequitur/api.Term] -/
def L25_0 : AC :=
  .seq
    (.ops [⟨some 14, .bin .lss (.t 13) (.t 12), none⟩] false)
    (.seq
      (.cond (.t 14)
        (.skip)
        (.exit 0))
      (.seq
        (.block 1
          (.seq
            (.ops [⟨some 15, .move (.t 13), none⟩, 
                ⟨some 16, .idxA 4 (.t 11) (.t 13), none⟩, 
                ⟨some 17, .load true 4 (.t 16), none⟩, 
                ⟨some 8, .alloc 24 [.int .i64 0, .str ⟨#[]⟩, .int .i64 0, .fsl 4 []], none⟩, 
                ⟨some 7, .move (.t 15), none⟩, 
                ⟨none, .store 4 (.t 8) (.t 17), none⟩] false)
            (.seq
              (.seq
                (.ops [⟨some 18, .move (.t 7), none⟩, 
                    ⟨some 19, .move (.t 1), none⟩, 
                    ⟨some 20, .len (.t 19), none⟩, 
                    ⟨some 21, .bin .geq (.t 18) (.t 20), none⟩] false)
                (.cond (.t 21)
                  (.seq
                    (.ops [⟨some 6, .move (.c (.int .i64 1)), none⟩] false)
                    (.ret))
                  (.skip)))
              (.seq
                (.ops [⟨some 22, .move (.t 1), none⟩, 
                    ⟨some 23, .move (.t 7), none⟩, 
                    ⟨some 24, .idxA 4 (.t 22) (.t 23), none⟩, 
                    ⟨some 25, .load true 4 (.t 24), none⟩, 
                    ⟨some 9, .alloc 24 [.int .i64 0, .str ⟨#[]⟩, .int .i64 0, .fsl 4 []], none⟩, 
                    ⟨none, .store 4 (.t 9) (.t 25), none⟩] false)
                (.seq
                  (.ops [⟨some 26, .move (.t 2), none⟩, 
                      ⟨some 27, .load true 4 (.t 8), none⟩, 
                      ⟨some 28, .load true 4 (.t 9), none⟩, 
                      ⟨some 29, .callv (.t 26) [.t 27, .t 28], none⟩, 
                      ⟨some 10, .move (.t 29), none⟩] false)
                  (.seq
                    (.ops [⟨some 30, .move (.t 10), none⟩, 
                        ⟨some 31, .bin .neq (.t 30) (.c (.int .i64 0)), none⟩] false)
                    (.cond (.t 31)
                      (.seq
                        (.ops [⟨some 32, .move (.t 10), none⟩, 
                            ⟨some 6, .move (.t 32), none⟩] false)
                        (.ret))
                      (.skip))))))))
        (.ops [⟨some 33, .bin .add (.t 13) (.c (.int .i64 1)), none⟩, 
            ⟨some 13, .move (.t 33), none⟩] false)))
def F25 : AF :=
  { ntmps := 39, results := [.tmp 6], pure := true, body :=
    .seq
      (.ops [⟨some 6, .move (.c (.int .i64 0)), none⟩] false)
      (.seq
        (.seq
          (.ops [⟨some 11, .move (.t 0), none⟩, 
              ⟨some 12, .len (.t 11), none⟩, 
              ⟨some 13, .move (.c (.int .i64 0)), none⟩] false)
          (.block 0
            (.loop L25_0)))
        (.seq
          (.seq
            (.ops [⟨some 34, .move (.t 0), none⟩, 
                ⟨some 35, .len (.t 34), none⟩, 
                ⟨some 36, .move (.t 1), none⟩, 
                ⟨some 37, .len (.t 36), none⟩, 
                ⟨some 38, .bin .lss (.t 35) (.t 37), none⟩] false)
            (.cond (.t 38)
              (.seq
                (.ops [⟨some 6, .move (.c (.int .i64 (-1))), none⟩] false)
                (.ret))
              (.skip)))
          (.seq
            (.ops [⟨some 6, .move (.c (.int .i64 0)), none⟩] false)
            (.ret)))) }

/- sequitur/term.all$1 -/
def F26 : AF :=
  { ntmps := 6, results := [], pure := false, body :=
    .ops [⟨some 3, .load true 4 (.t 1), none⟩, 
        ⟨some 4, .move (.t 0), none⟩, 
        ⟨some 5, .call 27 [.t 3, .t 4], none⟩] false }

/- sequitur/term.walk -/
def L27_0 : AC :=
  .seq
    (.ops [⟨some 15, .bin .lss (.t 14) (.t 13), none⟩] false)
    (.seq
      (.cond (.t 15)
        (.skip)
        (.exit 0))
      (.seq
        (.block 1
          (.seq
            (.ops [⟨some 16, .idxA 4 (.t 12) (.t 14), none⟩, 
                ⟨some 17, .load true 4 (.t 16), none⟩, 
                ⟨some 6, .alloc 24 [.int .i64 0, .str ⟨#[]⟩, .int .i64 0, .fsl 4 []], none⟩, 
                ⟨none, .store 4 (.t 6) (.t 17), none⟩] false)
            (.seq
              (.ops [⟨some 18, .load true 4 (.t 6), none⟩, 
                  ⟨some 19, .move (.t 1), none⟩, 
                  ⟨some 20, .call 27 [.t 18, .t 19], none⟩, 
                  ⟨some 21, .not (.t 20), none⟩] false)
              (.cond (.t 21)
                (.seq
                  (.ops [⟨some 4, .move (.c (.bool false)), none⟩] false)
                  (.ret))
                (.skip)))))
        (.ops [⟨some 22, .bin .add (.t 14) (.c (.int .i64 1)), none⟩, 
            ⟨some 14, .move (.t 22), none⟩] false)))
def F27 : AF :=
  { ntmps := 23, results := [.tmp 4], pure := false, body :=
    .seq
      (.ops [⟨some 2, .box 24 (.t 0), none⟩, 
          ⟨some 4, .move (.c (.bool false)), none⟩] false)
      (.seq
        (.seq
          (.ops [⟨some 7, .move (.t 1), none⟩, 
              ⟨some 8, .load true 4 (.t 2), none⟩, 
              ⟨some 9, .callv (.t 7) [.t 8], none⟩, 
              ⟨some 10, .not (.t 9), none⟩] false)
          (.cond (.t 10)
            (.seq
              (.ops [⟨some 4, .move (.c (.bool false)), none⟩] false)
              (.ret))
            (.skip)))
        (.seq
          (.seq
            (.ops [⟨some 11, .fieldA 3 (.t 2), none⟩, 
                ⟨some 12, .load false 1 (.t 11), none⟩, 
                ⟨some 13, .len (.t 12), none⟩, 
                ⟨some 14, .move (.c (.int .i64 0)), none⟩] false)
            (.block 0
              (.loop L27_0)))
          (.seq
            (.ops [⟨some 4, .move (.c (.bool true)), none⟩] false)
            (.ret)))) }

/- sequitur/sequiturref07.args -/
def F28 : AF :=
  { ntmps := 12, results := [.tmp 2], pure := true, body :=
    .seq
      (.ops [⟨some 2, .move (.c (.int .i64 0)), none⟩] false)
      (.seq
        (.seq
          (.ops [⟨some 3, .move (.t 0), none⟩] false)
          (.block 0
            (.seq
              (.ops [⟨some 5, .bin .eql (.t 3) (.c (.int .i64 3)), none⟩, 
                  ⟨some 4, .move (.t 5), none⟩] false)
              (.cond (.t 4)
                (.seq
                  (.ops [⟨some 2, .move (.c (.int .i64 (-1))), none⟩] false)
                  (.ret))
                (.seq
                  (.seq
                    (.ops [⟨some 7, .bin .eql (.t 3) (.c (.int .i64 5)), none⟩, 
                        ⟨some 6, .move (.t 7), none⟩] false)
                    (.cond (.t 6)
                      (.skip)
                      (.ops [⟨some 8, .bin .eql (.t 3) (.c (.int .i64 6)), none⟩, 
                          ⟨some 6, .move (.t 8), none⟩] false)))
                  (.cond (.t 6)
                    (.seq
                      (.ops [⟨some 2, .move (.c (.int .i64 2)), none⟩] false)
                      (.ret))
                    (.seq
                      (.seq
                        (.ops [⟨some 10, .bin .eql (.t 3) (.c (.int .i64 7)), none⟩, 
                            ⟨some 9, .move (.t 10), none⟩] false)
                        (.cond (.t 9)
                          (.skip)
                          (.ops [⟨some 11, .bin .eql (.t 3) (.c (.int .i64 8)), none⟩, 
                              ⟨some 9, .move (.t 11), none⟩] false)))
                      (.cond (.t 9)
                        (.seq
                          (.ops [⟨some 2, .move (.c (.int .i64 1)), none⟩] false)
                          (.ret))
                        (.skip)))))))))
        (.seq
          (.ops [⟨some 2, .move (.c (.int .i64 0)), none⟩] false)
          (.ret))) }

/- slices.IndexFunc[[]sequitur/api.Term,sequitur/api.Term] -/
def L29_0 : AC :=
  .seq
    (.ops [⟨some 9, .bin .lss (.t 8) (.t 7), none⟩] false)
    (.seq
      (.cond (.t 9)
        (.skip)
        (.exit 0))
      (.seq
        (.block 1
          (.seq
            (.ops [⟨some 10, .move (.t 8), none⟩, 
                ⟨some 5, .move (.t 10), none⟩] false)
            (.seq
              (.ops [⟨some 11, .move (.t 1), none⟩, 
                  ⟨some 12, .move (.t 0), none⟩, 
                  ⟨some 13, .move (.t 5), none⟩, 
                  ⟨some 14, .idxA 4 (.t 12) (.t 13), none⟩, 
                  ⟨some 15, .load true 4 (.t 14), none⟩, 
                  ⟨some 16, .callv (.t 11) [.t 15], none⟩] false)
              (.cond (.t 16)
                (.seq
                  (.ops [⟨some 17, .move (.t 5), none⟩, 
                      ⟨some 4, .move (.t 17), none⟩] false)
                  (.ret))
                (.skip)))))
        (.ops [⟨some 18, .bin .add (.t 8) (.c (.int .i64 1)), none⟩, 
            ⟨some 8, .move (.t 18), none⟩] false)))
def F29 : AF :=
  { ntmps := 19, results := [.tmp 4], pure := true, body :=
    .seq
      (.ops [⟨some 4, .move (.c (.int .i64 0)), none⟩] false)
      (.seq
        (.seq
          (.ops [⟨some 6, .move (.t 0), none⟩, 
              ⟨some 7, .len (.t 6), none⟩, 
              ⟨some 8, .move (.c (.int .i64 0)), none⟩] false)
          (.block 0
            (.loop L29_0)))
        (.seq
          (.ops [⟨some 4, .move (.c (.int .i64 (-1))), none⟩] false)
          (.ret))) }

/- sequitur/term.is$1 -/
def F30 : AF :=
  { ntmps := 7, results := [.tmp 3], pure := true, body :=
    .seq
      (.ops [⟨some 2, .box 24 (.t 0), none⟩, 
          ⟨some 3, .move (.c (.bool false)), none⟩] false)
      (.seq
        (.ops [⟨some 4, .load true 4 (.t 1), none⟩, 
            ⟨some 5, .load true 4 (.t 2), none⟩, 
            ⟨some 6, .call 31 [.t 4, .t 5], none⟩, 
            ⟨some 3, .move (.t 6), none⟩] false)
        (.ret)) }

/- sequitur/term.Same -/
def F31 : AF :=
  { ntmps := 9, results := [.tmp 4], pure := true, body :=
    .seq
      (.ops [⟨some 2, .box 24 (.t 0), none⟩, 
          ⟨some 3, .box 24 (.t 1), none⟩, 
          ⟨some 4, .move (.c (.bool false)), none⟩] false)
      (.seq
        (.ops [⟨some 5, .load true 4 (.t 2), none⟩, 
            ⟨some 6, .load true 4 (.t 3), none⟩, 
            ⟨some 7, .call 13 [.t 5, .t 6], none⟩, 
            ⟨some 8, .bin .eql (.t 7) (.c (.int .i64 0)), none⟩, 
            ⟨some 4, .move (.t 8), none⟩] false)
        (.ret)) }

/- cmp.isNaN[int] -/
def F32 : AF :=
  { ntmps := 6, results := [.tmp 2], pure := true, body :=
    .seq
      (.ops [⟨some 2, .move (.c (.bool false)), none⟩] false)
      (.seq
        (.ops [⟨some 3, .move (.t 0), none⟩, 
            ⟨some 4, .move (.t 0), none⟩, 
            ⟨some 5, .bin .neq (.t 3) (.t 4), none⟩, 
            ⟨some 2, .move (.t 5), none⟩] false)
        (.ret)) }

/- cmp.isNaN[int64] -/
def F33 : AF :=
  { ntmps := 6, results := [.tmp 2], pure := true, body :=
    .seq
      (.ops [⟨some 2, .move (.c (.bool false)), none⟩] false)
      (.seq
        (.ops [⟨some 3, .move (.t 0), none⟩, 
            ⟨some 4, .move (.t 0), none⟩, 
            ⟨some 5, .bin .neq (.t 3) (.t 4), none⟩, 
            ⟨some 2, .move (.t 5), none⟩] false)
        (.ret)) }

/- cmp.isNaN[string] -/
def F34 : AF :=
  { ntmps := 6, results := [.tmp 2], pure := true, body :=
    .seq
      (.ops [⟨some 2, .move (.c (.bool false)), none⟩] false)
      (.seq
        (.ops [⟨some 3, .move (.t 0), none⟩, 
            ⟨some 4, .move (.t 0), none⟩, 
            ⟨some 5, .bin .neq (.t 3) (.t 4), none⟩, 
            ⟨some 2, .move (.t 5), none⟩] false)
        (.ret)) }

def T : Tab
  | 3 => some F3
  | 4 => some F4
  | 5 => some F5
  | 6 => some F6
  | 7 => some F7
  | 8 => some F8
  | 9 => some F9
  | 10 => some F10
  | 11 => some F11
  | 12 => some F12
  | 13 => some F13
  | 14 => some F14
  | 15 => some F15
  | 16 => some F16
  | 17 => some F17
  | 18 => some F18
  | 19 => some F19
  | 20 => some F20
  | 21 => some F21
  | 22 => some F22
  | 23 => some F23
  | 24 => some F24
  | 25 => some F25
  | 26 => some F26
  | 27 => some F27
  | 28 => some F28
  | 29 => some F29
  | 30 => some F30
  | 31 => some F31
  | 32 => some F32
  | 33 => some F33
  | 34 => some F34
  | _ => none

end Go.Proofs.YtcoonnbkmklenaaDoor.A
