/- The pieces of some functions (by genx7.py). -/
import Derived.Test.YtcfhomdkchhigaaDoorTab
namespace Go.Proofs.YtcfhomdkchhigaaDoor.A
open Go

def G70_0 : AC :=
  .ops [⟨some 1, .box 42 (.t 0), none⟩, 
          ⟨some 2, .move (.c (.bool false)), none⟩] false
def G70_1 : AC :=
  .ops [⟨some 4, .fieldA 0 (.t 1), none⟩, 
            ⟨some 5, .load false 1 (.t 4), none⟩, 
            ⟨some 3, .move (.t 5), none⟩] false
def G70_2 : AC :=
  .seq
            (.ops [⟨some 6, .fieldA 1 (.t 1), none⟩, 
                ⟨some 7, .load false 1 (.t 6), none⟩, 
                ⟨some 8, .bin .neq (.t 7) (.c (.str ⟨#[]⟩)), none⟩, 
                ⟨some 9, .move (.t 8), none⟩, 
                ⟨some 10, .move (.t 3), some (9, true)⟩, 
                ⟨some 11, .buildSl 1 [.int .i64 0] 12 [(0, .c (.int .i64 1)), (1, .c (.int .i64 3)), (2, .c (.int .i64 5)), (3, .c (.int .i64 8)), (4, .c (.int .i64 10)), (5, .c (.int .i64 12)), (6, .c (.int .i64 14)), (7, .c (.int .i64 16)), (8, .c (.int .i64 18)), (9, .c (.int .i64 21)), (10, .c (.int .i64 23)), (11, .c (.int .i64 24))], some (9, true)⟩, 
                ⟨some 12, .call 91 [.t 10, .t 11], some (9, true)⟩, 
                ⟨some 13, .not (.t 12), some (9, true)⟩, 
                ⟨some 14, .pick (.t 9) (.t 13) (.c (.bool false)), none⟩] false)
            (.cond (.t 14)
              (.seq
                (.ops [⟨some 2, .move (.c (.bool false)), none⟩] false)
                (.ret))
              (.skip))
def G70_3 : AC :=
  .seq
              (.ops [⟨some 15, .fieldA 2 (.t 1), none⟩, 
                  ⟨some 16, .load false 1 (.t 15), none⟩, 
                  ⟨some 17, .bin .neq (.t 16) (.c (.str ⟨#[]⟩)), none⟩, 
                  ⟨some 18, .move (.t 17), none⟩, 
                  ⟨some 19, .move (.t 3), some (18, true)⟩, 
                  ⟨some 20, .buildSl 1 [.int .i64 0] 11 [(0, .c (.int .i64 5)), (1, .c (.int .i64 8)), (2, .c (.int .i64 9)), (3, .c (.int .i64 10)), (4, .c (.int .i64 11)), (5, .c (.int .i64 14)), (6, .c (.int .i64 16)), (7, .c (.int .i64 18)), (8, .c (.int .i64 19)), (9, .c (.int .i64 20)), (10, .c (.int .i64 24))], some (18, true)⟩, 
                  ⟨some 21, .call 91 [.t 19, .t 20], some (18, true)⟩, 
                  ⟨some 22, .not (.t 21), some (18, true)⟩, 
                  ⟨some 23, .pick (.t 18) (.t 22) (.c (.bool false)), none⟩] false)
              (.cond (.t 23)
                (.seq
                  (.ops [⟨some 2, .move (.c (.bool false)), none⟩] false)
                  (.ret))
                (.skip))
def G70_4 : AC :=
  .seq
                (.ops [⟨some 24, .fieldA 3 (.t 1), none⟩, 
                    ⟨some 25, .load false 1 (.t 24), none⟩, 
                    ⟨some 26, .bin .neq (.t 25) (.c (.str ⟨#[]⟩)), none⟩, 
                    ⟨some 27, .move (.t 26), none⟩, 
                    ⟨some 28, .move (.t 3), some (27, true)⟩, 
                    ⟨some 29, .buildSl 1 [.int .i64 0] 4 [(0, .c (.int .i64 5)), (1, .c (.int .i64 14)), (2, .c (.int .i64 15)), (3, .c (.int .i64 18))], some (27, true)⟩, 
                    ⟨some 30, .call 91 [.t 28, .t 29], some (27, true)⟩, 
                    ⟨some 31, .not (.t 30), some (27, true)⟩, 
                    ⟨some 32, .pick (.t 27) (.t 31) (.c (.bool false)), none⟩] false)
                (.cond (.t 32)
                  (.seq
                    (.ops [⟨some 2, .move (.c (.bool false)), none⟩] false)
                    (.ret))
                  (.skip))
def G70_5 : AC :=
  .seq
                  (.ops [⟨some 33, .fieldA 5 (.t 1), none⟩, 
                      ⟨some 34, .load true 4 (.t 33), none⟩, 
                      ⟨some 35, .build [.int .i64 0, .str ⟨#[]⟩, .int .i64 0, .fsl 4 []] [], none⟩, 
                      ⟨some 36, .call 62 [.t 34, .t 35], none⟩, 
                      ⟨some 37, .not (.t 36), none⟩, 
                      ⟨some 38, .move (.t 37), none⟩, 
                      ⟨some 39, .move (.t 3), some (38, true)⟩, 
                      ⟨some 40, .buildSl 1 [.int .i64 0] 2 [(0, .c (.int .i64 16)), (1, .c (.int .i64 17))], some (38, true)⟩, 
                      ⟨some 41, .call 91 [.t 39, .t 40], some (38, true)⟩, 
                      ⟨some 42, .not (.t 41), some (38, true)⟩, 
                      ⟨some 43, .pick (.t 38) (.t 42) (.c (.bool false)), none⟩] false)
                  (.cond (.t 43)
                    (.seq
                      (.ops [⟨some 2, .move (.c (.bool false)), none⟩] false)
                      (.ret))
                    (.skip))
def G70_6 : AC :=
  .seq
                    (.ops [⟨some 44, .fieldA 9 (.t 1), none⟩, 
                        ⟨some 45, .load true 5 (.t 44), none⟩, 
                        ⟨some 46, .build [.int .i64 0, .str ⟨#[]⟩, .str ⟨#[]⟩, .fsl 4 [], .fsl 5 []] [], none⟩, 
                        ⟨some 47, .call 50 [.t 45, .t 46], none⟩, 
                        ⟨some 48, .not (.t 47), none⟩, 
                        ⟨some 49, .move (.t 48), none⟩, 
                        ⟨some 50, .move (.t 3), some (49, true)⟩, 
                        ⟨some 51, .buildSl 1 [.int .i64 0] 2 [(0, .c (.int .i64 20)), (1, .c (.int .i64 23))], some (49, true)⟩, 
                        ⟨some 52, .call 91 [.t 50, .t 51], some (49, true)⟩, 
                        ⟨some 53, .not (.t 52), some (49, true)⟩, 
                        ⟨some 54, .pick (.t 49) (.t 53) (.c (.bool false)), none⟩] false)
                    (.cond (.t 54)
                      (.seq
                        (.ops [⟨some 2, .move (.c (.bool false)), none⟩] false)
                        (.ret))
                      (.skip))
def G70_7 : AC :=
  .seq
                      (.ops [⟨some 55, .fieldA 4 (.t 1), none⟩, 
                          ⟨some 56, .load false 1 (.t 55), none⟩, 
                          ⟨some 57, .move (.t 56), none⟩, 
                          ⟨some 58, .move (.t 3), some (57, true)⟩, 
                          ⟨some 59, .bin .neq (.t 58) (.c (.int .i64 23)), some (57, true)⟩, 
                          ⟨some 60, .pick (.t 57) (.t 59) (.c (.bool false)), none⟩] false)
                      (.cond (.t 60)
                        (.seq
                          (.ops [⟨some 2, .move (.c (.bool false)), none⟩] false)
                          (.ret))
                        (.skip))
def G70_8 : AC :=
  .seq
                        (.ops [⟨some 61, .fieldA 14 (.t 1), none⟩, 
                            ⟨some 62, .fieldA 1 (.t 61), none⟩, 
                            ⟨some 63, .load false 1 (.t 62), none⟩, 
                            ⟨some 64, .len (.t 63), none⟩, 
                            ⟨some 65, .bin .gtr (.t 64) (.c (.int .i64 0)), none⟩, 
                            ⟨some 66, .move (.t 65), none⟩, 
                            ⟨some 67, .move (.t 3), some (66, true)⟩, 
                            ⟨some 68, .buildSl 1 [.int .i64 0] 2 [(0, .c (.int .i64 25)), (1, .c (.int .i64 27))], some (66, true)⟩, 
                            ⟨some 69, .call 91 [.t 67, .t 68], some (66, true)⟩, 
                            ⟨some 70, .not (.t 69), some (66, true)⟩, 
                            ⟨some 71, .pick (.t 66) (.t 70) (.c (.bool false)), none⟩] false)
                        (.cond (.t 71)
                          (.seq
                            (.ops [⟨some 2, .move (.c (.bool false)), none⟩] false)
                            (.ret))
                          (.skip))
def G70_9 : AC :=
  .seq
                          (.ops [⟨some 72, .fieldA 14 (.t 1), none⟩, 
                              ⟨some 73, .fieldA 0 (.t 72), none⟩, 
                              ⟨some 74, .load false 1 (.t 73), none⟩, 
                              ⟨some 75, .len (.t 74), none⟩, 
                              ⟨some 76, .bin .gtr (.t 75) (.c (.int .i64 0)), none⟩, 
                              ⟨some 77, .move (.t 76), none⟩, 
                              ⟨some 78, .move (.t 3), some (77, true)⟩, 
                              ⟨some 79, .bin .neq (.t 78) (.c (.int .i64 27)), some (77, true)⟩, 
                              ⟨some 80, .pick (.t 77) (.t 79) (.c (.bool false)), none⟩] false)
                          (.cond (.t 80)
                            (.seq
                              (.ops [⟨some 2, .move (.c (.bool false)), none⟩] false)
                              (.ret))
                            (.skip))
def G70_10 : AC :=
  .ops [⟨some 81, .fieldA 14 (.t 1), none⟩, 
                              ⟨some 82, .fieldA 2 (.t 81), none⟩, 
                              ⟨some 83, .load true 7 (.t 82), none⟩, 
                              ⟨some 84, .build [.int .i64 0, .fsl 1 [], .fsl 1 [], .int .i64 0, .int .i64 0, .fsl 2 [], .fsl 7 []] [], none⟩, 
                              ⟨some 85, .call 89 [.t 83, .t 84], none⟩, 
                              ⟨some 86, .move (.t 85), none⟩, 
                              ⟨some 87, .move (.t 3), some (86, false)⟩, 
                              ⟨some 88, .bin .eql (.t 87) (.c (.int .i64 26)), some (86, false)⟩, 
                              ⟨some 89, .pick (.t 86) (.c (.bool true)) (.t 88), none⟩, 
                              ⟨some 2, .move (.t 89), none⟩] false
def G70_11 : AC :=
  .ret
def G70 : AF := { ntmps := 90, results := [.tmp 2], pure := true, body := .seq G70_0 (.seq G70_1 (.seq G70_2 (.seq G70_3 (.seq G70_4 (.seq G70_5 (.seq G70_6 (.seq G70_7 (.seq G70_8 (.seq G70_9 (.seq G70_10 (G70_11))))))))))) }
theorem F70_G : F70 = G70 := rfl

end Go.Proofs.YtcfhomdkchhigaaDoor.A
