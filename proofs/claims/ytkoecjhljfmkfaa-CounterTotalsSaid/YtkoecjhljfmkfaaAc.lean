import Derived.Test.YtkoecjhljfmkfaaAm3
namespace Go.Am
def n_billinglaw32_CounterChecks : FuncId := 3
def n_billinglaw32_CounterGets : FuncId := 4
def n_billinglaw32_CounterAdds : FuncId := 5
def n_billinglaw32_CounterOne : FuncId := 6
def n_billinglaw32_CounterOrder : FuncId := 7
def n_billinglaw32_CounterTotals : FuncId := 8
def n_billinglaw32_awake : FuncId := 9
def n_counter_Check : FuncId := 10
def n_billingref32_Check : FuncId := 11
def n_counter_Get : FuncId := 12
def n_billingref32_Get : FuncId := 13
def n_billingref32_Same : FuncId := 14
def n_counter_Drop : FuncId := 15
def n_billingref32_Drop : FuncId := 16
def n_counter_Add : FuncId := 17
def n_billingref32_Add : FuncId := 18
def n_counter_permitted : FuncId := 19
def n_counter_ranged : FuncId := 20
def n_counter_compare : FuncId := 21
def n_billingref32_keyed : FuncId := 22
def n_billingref32_within : FuncId := 23
def n_billingref32_order : FuncId := 24
def n_counter_Add_1 : FuncId := 25
def n_counter_known : FuncId := 26
def n_billingref32_sign : FuncId := 27

/- billing/billinglaw32.CounterChecks -/
def a_billinglaw32_CounterChecks : AF := ⟨15, (.seq (.reg [
    ⟨some 2, .mv (.c (.bool false)), none⟩])
  (.seq (.seq (.reg [
        ⟨some 3, .cp (.t 0), none⟩,
        ⟨some 4, .len false (.t 3) (some 0), none⟩,
        ⟨some 5, .bin .gtr (.t 4) (.c (.int .i64 60)), none⟩])
      (.cond (.t 5) (.seq (.reg [
            ⟨some 6, .call n_billinglaw32_awake [] false, none⟩,
            ⟨some 2, .mv (.t 6), none⟩])
          .ret)
        .skip))
    (.seq (.reg [
        ⟨some 7, .mv (.t 0), none⟩,
        ⟨some 8, .call n_counter_Check [((.t 7), false)] false, none⟩,
        ⟨some 9, .mv (.t 0), none⟩,
        ⟨some 10, .call n_billingref32_Check [((.t 9), false)] false, none⟩,
        ⟨some 11, .beq false (.t 8) (.t 10), none⟩,
        ⟨some 12, .mv (.t 11), none⟩,
        ⟨some 13, .call n_billinglaw32_awake [] false, some (12, true)⟩,
        ⟨some 14, .pick (.t 12) (.t 13) (.c (.bool false)), none⟩,
        ⟨some 2, .mv (.t 14), none⟩])
      .ret))), [.tmp 2]⟩

/- billing/billinglaw32.CounterGets -/
def a_billinglaw32_CounterGets : AF := ⟨40, (.seq (.reg [
    ⟨some 4, .boxr (.t 1), none⟩,
    ⟨some 6, .mv (.c (.bool false)), none⟩])
  (.seq (.seq (.reg [
        ⟨some 7, .cp (.t 0), none⟩,
        ⟨some 8, .len false (.t 7) (some 0), none⟩,
        ⟨some 9, .bin .gtr (.t 8) (.c (.int .i64 60)), none⟩])
      (.cond (.t 9) (.seq (.reg [
            ⟨some 10, .call n_billinglaw32_awake [] false, none⟩,
            ⟨some 6, .mv (.t 10), none⟩])
          .ret)
        .skip))
    (.seq (.dreg [
        ⟨some 11, .cp (.t 0), none⟩,
        ⟨some 12, .ia (.t 4) (.c (.int .i64 0)) 1 (some 3) none, none⟩,
        ⟨some 13, .ld (.t 12) none false none, none⟩,
        ⟨some 14, .ia (.t 4) (.c (.int .i64 1)) 1 (some 3) none, none⟩,
        ⟨some 15, .ld (.t 14) none false none, none⟩,
        ⟨some 16, .ia (.t 4) (.c (.int .i64 2)) 1 (some 3) none, none⟩,
        ⟨some 17, .ld (.t 16) none false none, none⟩,
        ⟨some 18, .call n_counter_Get [((.t 11), false), ((.t 13), false), ((.t 15), false), ((.t 17), false)] false, none⟩,
        ⟨some 19, .cp (.t 0), none⟩,
        ⟨some 20, .ia (.t 4) (.c (.int .i64 0)) 1 (some 3) none, none⟩,
        ⟨some 21, .ld (.t 20) none false none, none⟩,
        ⟨some 22, .ia (.t 4) (.c (.int .i64 1)) 1 (some 3) none, none⟩,
        ⟨some 23, .ld (.t 22) none false none, none⟩,
        ⟨some 24, .ia (.t 4) (.c (.int .i64 2)) 1 (some 3) none, none⟩,
        ⟨some 25, .ld (.t 24) none false none, none⟩,
        ⟨some 26, .call n_billingref32_Get [((.t 19), false), ((.t 21), false), ((.t 23), false), ((.t 25), false)] false, none⟩,
        ⟨some 27, .eqs false [0, 0, 0, 0, 0] (.t 18) (.t 26), none⟩,
        ⟨some 28, .cp (.t 27), none⟩,
        ⟨some 29, .cp (.t 0), some (28, true)⟩,
        ⟨some 30, .cp (.t 2), some (28, true)⟩,
        ⟨some 31, .call n_counter_Drop [((.t 29), false), ((.t 30), false)] false, some (28, true)⟩,
        ⟨some 32, .cp (.t 0), some (28, true)⟩,
        ⟨some 33, .cp (.t 2), some (28, true)⟩,
        ⟨some 34, .call n_billingref32_Drop [((.t 32), false), ((.t 33), false)] false, some (28, true)⟩,
        ⟨some 35, .call n_billingref32_Same [((.t 31), true), ((.t 34), true)] false, some (28, true)⟩,
        ⟨some 36, .pick (.t 28) (.t 35) (.c (.bool false)), none⟩,
        ⟨some 37, .cp (.t 36), none⟩,
        ⟨some 38, .call n_billinglaw32_awake [] false, some (37, true)⟩,
        ⟨some 39, .pick (.t 37) (.t 38) (.c (.bool false)), none⟩,
        ⟨some 6, .cp (.t 39), none⟩])
      .ret))), [.tmp 6]⟩

/- billing/billinglaw32.CounterAdds -/
def a_billinglaw32_CounterAdds : AF := ⟨36, (.seq (.reg [
    ⟨some 3, .boxr (.t 1), none⟩,
    ⟨some 4, .mv (.c (.bool false)), none⟩])
  (.seq (.seq (.reg [
        ⟨some 9, .cp (.t 0), none⟩,
        ⟨some 10, .len false (.t 9) (some 0), none⟩,
        ⟨some 11, .bin .gtr (.t 10) (.c (.int .i64 60)), none⟩])
      (.cond (.t 11) (.seq (.reg [
            ⟨some 12, .call n_billinglaw32_awake [] false, none⟩,
            ⟨some 4, .mv (.t 12), none⟩])
          .ret)
        .skip))
    (.seq (.reg [
        ⟨some 14, .mv (.t 0), none⟩,
        ⟨some 15, .ld (.t 3) (some 5) false none, none⟩,
        ⟨some 16, .call n_counter_Add [((.t 14), false), ((.t 15), false)] false, none⟩,
        ⟨some 13, .mv (.t 16), none⟩,
        ⟨some 17, .ext 13 0, none⟩,
        ⟨none, .cm 17, none⟩,
        ⟨some 18, .ext 13 1, none⟩,
        ⟨some 5, .mv (.t 17), none⟩,
        ⟨none, .cm 5, none⟩,
        ⟨some 6, .mv (.t 18), none⟩])
      (.seq (.reg [
          ⟨some 20, .mv (.t 0), none⟩,
          ⟨some 21, .ld (.t 3) (some 5) false none, none⟩,
          ⟨some 22, .call n_billingref32_Add [((.t 20), false), ((.t 21), false)] false, none⟩,
          ⟨some 19, .mv (.t 22), none⟩,
          ⟨some 23, .ext 19 0, none⟩,
          ⟨none, .cm 23, none⟩,
          ⟨some 24, .ext 19 1, none⟩,
          ⟨some 7, .mv (.t 23), none⟩,
          ⟨none, .cm 7, none⟩,
          ⟨some 8, .mv (.t 24), none⟩])
        (.seq (.reg [
            ⟨none, .cm 5, none⟩,
            ⟨some 25, .cp (.t 5), none⟩,
            ⟨none, .cm 7, none⟩,
            ⟨some 26, .cp (.t 7), none⟩,
            ⟨none, .cm 25, none⟩,
            ⟨none, .cm 26, none⟩,
            ⟨some 27, .call n_billingref32_Same [((.t 25), false), ((.t 26), false)] false, none⟩,
            ⟨some 28, .mv (.t 27), none⟩,
            ⟨some 29, .mv (.t 6), some (28, true)⟩,
            ⟨some 30, .mv (.t 8), some (28, true)⟩,
            ⟨some 31, .bin .eql (.t 29) (.t 30), some (28, true)⟩,
            ⟨some 32, .pick (.t 28) (.t 31) (.c (.bool false)), none⟩,
            ⟨some 33, .mv (.t 32), none⟩,
            ⟨some 34, .call n_billinglaw32_awake [] false, some (33, true)⟩,
            ⟨some 35, .pick (.t 33) (.t 34) (.c (.bool false)), none⟩,
            ⟨some 4, .mv (.t 35), none⟩])
          .ret))))), [.tmp 4]⟩

/- billing/billinglaw32.CounterOne -/
def a_billinglaw32_CounterOne : AF := ⟨108, (.seq (.reg [
    ⟨some 4, .boxr (.t 1), none⟩,
    ⟨some 5, .boxr (.t 2), none⟩,
    ⟨some 6, .mv (.c (.bool false)), none⟩])
  (.seq (.seq (.reg [
        ⟨some 11, .cp (.t 0), none⟩,
        ⟨some 12, .len false (.t 11) (some 0), none⟩,
        ⟨some 13, .bin .gtr (.t 12) (.c (.int .i64 60)), none⟩])
      (.cond (.t 13) (.seq (.reg [
            ⟨some 14, .call n_billinglaw32_awake [] false, none⟩,
            ⟨some 6, .mv (.t 14), none⟩])
          .ret)
        .skip))
    (.seq (.reg [
        ⟨some 16, .mv (.t 0), none⟩,
        ⟨some 17, .ld (.t 4) (some 5) false none, none⟩,
        ⟨some 18, .call n_counter_Add [((.t 16), false), ((.t 17), false)] false, none⟩,
        ⟨some 15, .mv (.t 18), none⟩,
        ⟨some 19, .ext 15 0, none⟩,
        ⟨none, .cm 19, none⟩,
        ⟨some 20, .ext 15 1, none⟩,
        ⟨some 7, .mv (.t 19), none⟩,
        ⟨none, .cm 7, none⟩,
        ⟨some 8, .mv (.t 20), none⟩])
      (.seq (.seq (.reg [
            ⟨some 21, .mv (.t 8), none⟩,
            ⟨some 22, .bin .neq (.t 21) (.c (.int .i64 0)), none⟩])
          (.cond (.t 22) (.seq (.reg [
                ⟨some 23, .al 7, none⟩,
                ⟨some 24, .len false (.t 23) (some 7), none⟩,
                ⟨some 25, .bin .eql (.t 24) (.c (.int .i64 0)), none⟩,
                ⟨some 26, .mv (.t 25), none⟩,
                ⟨some 27, .call n_billinglaw32_awake [] false, some (26, true)⟩,
                ⟨some 28, .pick (.t 26) (.t 27) (.c (.bool false)), none⟩,
                ⟨some 6, .mv (.t 28), none⟩])
              .ret)
            .skip))
        (.seq (.dreg [
            ⟨some 29, .cp (.t 0), none⟩,
            ⟨some 30, .fa (.t 4) 0 none, none⟩,
            ⟨some 31, .ld (.t 30) none false none, none⟩,
            ⟨some 32, .fa (.t 4) 1 none, none⟩,
            ⟨some 33, .ld (.t 32) none false none, none⟩,
            ⟨some 34, .fa (.t 4) 2 none, none⟩,
            ⟨some 35, .ld (.t 34) none false none, none⟩,
            ⟨some 36, .call n_counter_Get [((.t 29), false), ((.t 31), false), ((.t 33), false), ((.t 35), false)] false, none⟩,
            ⟨some 37, .cp (.t 7), none⟩,
            ⟨some 38, .fa (.t 4) 0 none, none⟩,
            ⟨some 39, .ld (.t 38) none false none, none⟩,
            ⟨some 40, .fa (.t 4) 1 none, none⟩,
            ⟨some 41, .ld (.t 40) none false none, none⟩,
            ⟨some 42, .fa (.t 4) 2 none, none⟩,
            ⟨some 43, .ld (.t 42) none false none, none⟩,
            ⟨some 44, .call n_counter_Get [((.t 37), false), ((.t 39), false), ((.t 41), false), ((.t 43), false)] false, none⟩,
            ⟨some 9, .newbox [(.int .i64 0), (.int .i64 0), (.int .i64 0), (.int .i64 0), (.int .i64 0)], none⟩,
            ⟨some 10, .newbox [(.int .i64 0), (.int .i64 0), (.int .i64 0), (.int .i64 0), (.int .i64 0)], none⟩,
            ⟨none, .st (.t 9) (.t 36) 5 false (some 9), none⟩,
            ⟨none, .st (.t 10) (.t 44) 5 false (some 10), none⟩])
          (.seq (.seq (.reg [
                ⟨none, .cm 7, none⟩,
                ⟨some 45, .cp (.t 7), none⟩,
                ⟨none, .cm 45, none⟩,
                ⟨some 46, .call n_counter_Check [((.t 45), false)] false, none⟩,
                ⟨some 47, .un .not (.t 46), none⟩,
                ⟨some 48, .mv (.t 47), none⟩,
                ⟨some 49, .fa (.t 10) 3 (some 10), some (48, false)⟩,
                ⟨some 50, .ld (.t 49) none false (some 10), some (48, false)⟩,
                ⟨some 51, .fa (.t 9) 3 (some 9), some (48, false)⟩,
                ⟨some 52, .ld (.t 51) none false (some 9), some (48, false)⟩,
                ⟨some 53, .fa (.t 4) 3 none, some (48, false)⟩,
                ⟨some 54, .ld (.t 53) none false none, some (48, false)⟩,
                ⟨some 55, .bin .add (.t 52) (.t 54), some (48, false)⟩,
                ⟨some 56, .bin .neq (.t 50) (.t 55), some (48, false)⟩,
                ⟨some 57, .pick (.t 48) (.c (.bool true)) (.t 56), none⟩,
                ⟨some 58, .mv (.t 57), none⟩,
                ⟨some 59, .fa (.t 10) 4 (some 10), some (58, false)⟩,
                ⟨some 60, .ld (.t 59) none false (some 10), some (58, false)⟩,
                ⟨some 61, .fa (.t 9) 4 (some 9), some (58, false)⟩,
                ⟨some 62, .ld (.t 61) none false (some 9), some (58, false)⟩,
                ⟨some 63, .fa (.t 4) 4 none, some (58, false)⟩,
                ⟨some 64, .ld (.t 63) none false none, some (58, false)⟩,
                ⟨some 65, .bin .add (.t 62) (.t 64), some (58, false)⟩,
                ⟨some 66, .bin .neq (.t 60) (.t 65), some (58, false)⟩,
                ⟨some 67, .pick (.t 58) (.c (.bool true)) (.t 66), none⟩])
              (.cond (.t 67) (.seq (.reg [
                    ⟨some 6, .mv (.c (.bool false)), none⟩])
                  .ret)
                .skip))
            (.seq (.seq (.reg [
                  ⟨some 68, .ia (.t 5) (.c (.int .i64 0)) 1 (some 3) none, none⟩,
                  ⟨some 69, .ld (.t 68) none false none, none⟩,
                  ⟨some 70, .fa (.t 4) 0 none, none⟩,
                  ⟨some 71, .ld (.t 70) none false none, none⟩,
                  ⟨some 72, .bin .eql (.t 69) (.t 71), none⟩,
                  ⟨some 73, .mv (.t 72), none⟩,
                  ⟨some 74, .ia (.t 5) (.c (.int .i64 1)) 1 (some 3) none, some (73, true)⟩,
                  ⟨some 75, .ld (.t 74) none false none, some (73, true)⟩,
                  ⟨some 76, .fa (.t 4) 1 none, some (73, true)⟩,
                  ⟨some 77, .ld (.t 76) none false none, some (73, true)⟩,
                  ⟨some 78, .bin .eql (.t 75) (.t 77), some (73, true)⟩,
                  ⟨some 79, .pick (.t 73) (.t 78) (.c (.bool false)), none⟩,
                  ⟨some 80, .mv (.t 79), none⟩,
                  ⟨some 81, .ia (.t 5) (.c (.int .i64 2)) 1 (some 3) none, some (80, true)⟩,
                  ⟨some 82, .ld (.t 81) none false none, some (80, true)⟩,
                  ⟨some 83, .fa (.t 4) 2 none, some (80, true)⟩,
                  ⟨some 84, .ld (.t 83) none false none, some (80, true)⟩,
                  ⟨some 85, .bin .eql (.t 82) (.t 84), some (80, true)⟩,
                  ⟨some 86, .pick (.t 80) (.t 85) (.c (.bool false)), none⟩])
                (.cond (.t 86) (.seq (.reg [
                      ⟨some 87, .call n_billinglaw32_awake [] false, none⟩,
                      ⟨some 6, .mv (.t 87), none⟩])
                    .ret)
                  .skip))
              (.seq (.dreg [
                  ⟨some 88, .cp (.t 7), none⟩,
                  ⟨some 89, .ia (.t 5) (.c (.int .i64 0)) 1 (some 3) none, none⟩,
                  ⟨some 90, .ld (.t 89) none false none, none⟩,
                  ⟨some 91, .ia (.t 5) (.c (.int .i64 1)) 1 (some 3) none, none⟩,
                  ⟨some 92, .ld (.t 91) none false none, none⟩,
                  ⟨some 93, .ia (.t 5) (.c (.int .i64 2)) 1 (some 3) none, none⟩,
                  ⟨some 94, .ld (.t 93) none false none, none⟩,
                  ⟨some 95, .call n_counter_Get [((.t 88), false), ((.t 90), false), ((.t 92), false), ((.t 94), false)] false, none⟩,
                  ⟨some 96, .cp (.t 0), none⟩,
                  ⟨some 97, .ia (.t 5) (.c (.int .i64 0)) 1 (some 3) none, none⟩,
                  ⟨some 98, .ld (.t 97) none false none, none⟩,
                  ⟨some 99, .ia (.t 5) (.c (.int .i64 1)) 1 (some 3) none, none⟩,
                  ⟨some 100, .ld (.t 99) none false none, none⟩,
                  ⟨some 101, .ia (.t 5) (.c (.int .i64 2)) 1 (some 3) none, none⟩,
                  ⟨some 102, .ld (.t 101) none false none, none⟩,
                  ⟨some 103, .call n_counter_Get [((.t 96), false), ((.t 98), false), ((.t 100), false), ((.t 102), false)] false, none⟩,
                  ⟨some 104, .eqs false [0, 0, 0, 0, 0] (.t 95) (.t 103), none⟩,
                  ⟨some 105, .cp (.t 104), none⟩,
                  ⟨some 106, .call n_billinglaw32_awake [] false, some (105, true)⟩,
                  ⟨some 107, .pick (.t 105) (.t 106) (.c (.bool false)), none⟩,
                  ⟨some 6, .cp (.t 107), none⟩])
                .ret)))))))), [.tmp 6]⟩

/- billing/billinglaw32.CounterOrder -/
def a_billinglaw32_CounterOrder : AF := ⟨63, (.seq (.reg [
    ⟨some 3, .boxr (.t 1), none⟩,
    ⟨some 4, .mv (.c (.bool false)), none⟩])
  (.seq (.seq (.reg [
        ⟨some 13, .cp (.t 0), none⟩,
        ⟨some 14, .len false (.t 13) (some 0), none⟩,
        ⟨some 15, .bin .gtr (.t 14) (.c (.int .i64 60)), none⟩])
      (.cond (.t 15) (.seq (.reg [
            ⟨some 16, .call n_billinglaw32_awake [] false, none⟩,
            ⟨some 4, .mv (.t 16), none⟩])
          .ret)
        .skip))
    (.seq (.reg [
        ⟨some 18, .mv (.t 0), none⟩,
        ⟨some 19, .ia (.t 3) (.c (.int .i64 0)) 5 (some 2) none, none⟩,
        ⟨some 20, .ld (.t 19) (some 5) false none, none⟩,
        ⟨some 21, .call n_counter_Add [((.t 18), false), ((.t 20), false)] false, none⟩,
        ⟨some 17, .mv (.t 21), none⟩,
        ⟨some 22, .ext 17 0, none⟩,
        ⟨none, .cm 22, none⟩,
        ⟨some 23, .ext 17 1, none⟩,
        ⟨some 5, .mv (.t 22), none⟩,
        ⟨none, .cm 5, none⟩,
        ⟨some 6, .mv (.t 23), none⟩])
      (.seq (.reg [
          ⟨some 25, .mv (.t 0), none⟩,
          ⟨some 26, .ia (.t 3) (.c (.int .i64 1)) 5 (some 2) none, none⟩,
          ⟨some 27, .ld (.t 26) (some 5) false none, none⟩,
          ⟨some 28, .call n_counter_Add [((.t 25), false), ((.t 27), false)] false, none⟩,
          ⟨some 24, .mv (.t 28), none⟩,
          ⟨some 29, .ext 24 0, none⟩,
          ⟨none, .cm 29, none⟩,
          ⟨some 30, .ext 24 1, none⟩,
          ⟨some 7, .mv (.t 29), none⟩,
          ⟨none, .cm 7, none⟩,
          ⟨some 8, .mv (.t 30), none⟩])
        (.seq (.seq (.reg [
              ⟨some 31, .mv (.t 6), none⟩,
              ⟨some 32, .bin .neq (.t 31) (.c (.int .i64 0)), none⟩,
              ⟨some 33, .mv (.t 32), none⟩,
              ⟨some 34, .mv (.t 8), some (33, false)⟩,
              ⟨some 35, .bin .neq (.t 34) (.c (.int .i64 0)), some (33, false)⟩,
              ⟨some 36, .pick (.t 33) (.c (.bool true)) (.t 35), none⟩])
            (.cond (.t 36) (.seq (.reg [
                  ⟨some 37, .call n_billinglaw32_awake [] false, none⟩,
                  ⟨some 4, .mv (.t 37), none⟩])
                .ret)
              .skip))
          (.seq (.reg [
              ⟨none, .cm 5, none⟩,
              ⟨some 39, .cp (.t 5), none⟩,
              ⟨some 40, .ia (.t 3) (.c (.int .i64 1)) 5 (some 2) none, none⟩,
              ⟨some 41, .ld (.t 40) (some 5) false none, none⟩,
              ⟨none, .cm 39, none⟩,
              ⟨some 42, .call n_counter_Add [((.t 39), false), ((.t 41), false)] false, none⟩,
              ⟨some 38, .mv (.t 42), none⟩,
              ⟨some 43, .ext 38 0, none⟩,
              ⟨none, .cm 43, none⟩,
              ⟨some 44, .ext 38 1, none⟩,
              ⟨some 9, .mv (.t 43), none⟩,
              ⟨none, .cm 9, none⟩,
              ⟨some 10, .mv (.t 44), none⟩])
            (.seq (.reg [
                ⟨none, .cm 7, none⟩,
                ⟨some 46, .cp (.t 7), none⟩,
                ⟨some 47, .ia (.t 3) (.c (.int .i64 0)) 5 (some 2) none, none⟩,
                ⟨some 48, .ld (.t 47) (some 5) false none, none⟩,
                ⟨none, .cm 46, none⟩,
                ⟨some 49, .call n_counter_Add [((.t 46), false), ((.t 48), false)] false, none⟩,
                ⟨some 45, .mv (.t 49), none⟩,
                ⟨some 50, .ext 45 0, none⟩,
                ⟨none, .cm 50, none⟩,
                ⟨some 51, .ext 45 1, none⟩,
                ⟨some 11, .mv (.t 50), none⟩,
                ⟨none, .cm 11, none⟩,
                ⟨some 12, .mv (.t 51), none⟩])
              (.seq (.reg [
                  ⟨some 52, .mv (.t 10), none⟩,
                  ⟨some 53, .mv (.t 12), none⟩,
                  ⟨some 54, .bin .eql (.t 52) (.t 53), none⟩,
                  ⟨some 55, .mv (.t 54), none⟩,
                  ⟨none, .cm 9, none⟩,
                  ⟨some 56, .cp (.t 9), some (55, true)⟩,
                  ⟨none, .cm 11, none⟩,
                  ⟨some 57, .cp (.t 11), some (55, true)⟩,
                  ⟨none, .cm 56, none⟩,
                  ⟨none, .cm 57, none⟩,
                  ⟨some 58, .call n_billingref32_Same [((.t 56), false), ((.t 57), false)] false, some (55, true)⟩,
                  ⟨some 59, .pick (.t 55) (.t 58) (.c (.bool false)), none⟩,
                  ⟨some 60, .mv (.t 59), none⟩,
                  ⟨some 61, .call n_billinglaw32_awake [] false, some (60, true)⟩,
                  ⟨some 62, .pick (.t 60) (.t 61) (.c (.bool false)), none⟩,
                  ⟨some 4, .mv (.t 62), none⟩])
                .ret)))))))), [.tmp 4]⟩

/- billing/billinglaw32.CounterTotals -/
def billinglaw32_CounterTotals_l1b : AC := (.seq (.seq (.reg [
      ⟨some 14, .mv (.t 6), none⟩,
      ⟨some 15, .cp (.t 0), none⟩,
      ⟨some 16, .len false (.t 15) (some 0), none⟩,
      ⟨some 17, .bin .lss (.t 14) (.t 16), none⟩])
    (.cond (.t 17) .skip
      (.exit 0)))
  (.seq (.blk 1 (.seq (.reg [
          ⟨none, .cm 3, none⟩,
          ⟨some 21, .cp (.t 3), none⟩,
          ⟨some 22, .cp (.t 0), none⟩,
          ⟨some 23, .mv (.t 6), none⟩,
          ⟨some 24, .ia (.t 22) (.t 23) 5 none (some 0), none⟩,
          ⟨some 25, .ld (.t 24) (some 5) false none, none⟩,
          ⟨none, .cm 21, none⟩,
          ⟨some 26, .call n_counter_Add [((.t 21), false), ((.t 25), false)] false, none⟩,
          ⟨some 20, .mv (.t 26), none⟩,
          ⟨some 27, .ext 20 0, none⟩,
          ⟨none, .cm 27, none⟩,
          ⟨some 28, .ext 20 1, none⟩,
          ⟨some 7, .mv (.t 27), none⟩,
          ⟨none, .cm 7, none⟩,
          ⟨some 8, .mv (.t 28), none⟩])
        (.seq (.seq (.reg [
              ⟨some 29, .mv (.t 8), none⟩,
              ⟨some 30, .bin .neq (.t 29) (.c (.int .i64 0)), none⟩])
            (.cond (.t 30) (.exit 1)
              .skip))
          (.pre [false, false, false, true] (.seq (.reg [
              ⟨none, .cm 7, none⟩,
              ⟨some 31, .cp (.t 7), none⟩,
              ⟨some 3, .mv (.t 31), none⟩,
              ⟨none, .cm 3, none⟩])
            (.seq (.reg [
                ⟨some 32, .mv (.t 4), none⟩,
                ⟨some 33, .cp (.t 0), none⟩,
                ⟨some 34, .mv (.t 6), none⟩,
                ⟨some 35, .ia (.t 33) (.t 34) 5 none (some 0), none⟩,
                ⟨some 36, .fa (.t 35) 3 none, none⟩,
                ⟨some 37, .ld (.t 36) none false none, none⟩,
                ⟨some 38, .bin .add (.t 32) (.t 37), none⟩,
                ⟨some 4, .mv (.t 38), none⟩])
              (.reg [
                ⟨some 39, .mv (.t 5), none⟩,
                ⟨some 40, .cp (.t 0), none⟩,
                ⟨some 41, .mv (.t 6), none⟩,
                ⟨some 42, .ia (.t 40) (.t 41) 5 none (some 0), none⟩,
                ⟨some 43, .fa (.t 42) 4 none, none⟩,
                ⟨some 44, .ld (.t 43) none false none, none⟩,
                ⟨some 45, .bin .add (.t 39) (.t 44), none⟩,
                ⟨some 5, .mv (.t 45), none⟩])))))))
    (.reg [
      ⟨some 18, .mv (.t 6), none⟩,
      ⟨some 19, .bin .add (.t 18) (.c (.int .i64 1)), none⟩,
      ⟨some 6, .mv (.t 19), none⟩])))
def billinglaw32_CounterTotals_l1 : AC := .pre [false, false, false, false, false, false, false, true, true, false, false, false, false, false, true, true, true, true, true, true, true, true, true, true, true, true, true, true, true, true, true, true, true, true, true, true, true, true, true, true, true, true, true, true, true, true] billinglaw32_CounterTotals_l1b
@[go_sem] theorem billinglaw32_CounterTotals_l1_go {M : Mach} {k : List It} {s : St} {Q : Ex → St → Prop} : Run M (.c (.loop billinglaw32_CounterTotals_l1) :: k) .norm s Q ↔ Run M (.c billinglaw32_CounterTotals_l1b :: .lp billinglaw32_CounterTotals_l1 :: k) .norm { s with t := killM [false, false, false, false, false, false, false, true, true, false, false, false, false, false, true, true, true, true, true, true, true, true, true, true, true, true, true, true, true, true, true, true, true, true, true, true, true, true, true, true, true, true, true, true, true, true] [false, false, false, false, false, false, false, true, true, false, false, false, false, false, true, true, true, true, true, true, true, true, true, true, true, true, true, true, true, true, true, true, true, true, true, true, true, true, true, true, true, true, true, true, true, true] s.t } Q := run_loop_pre
@[go_sem] theorem billinglaw32_CounterTotals_l1_lp {M : Mach} {k : List It} {s : St} {Q : Ex → St → Prop} : Run M (.lp billinglaw32_CounterTotals_l1 :: k) .norm s Q ↔ Run M (.c billinglaw32_CounterTotals_l1b :: .lp billinglaw32_CounterTotals_l1 :: k) .norm { s with t := killM [false, false, false, false, false, false, false, true, true, false, false, false, false, false, true, true, true, true, true, true, true, true, true, true, true, true, true, true, true, true, true, true, true, true, true, true, true, true, true, true, true, true, true, true, true, true] [false, false, false, false, false, false, false, true, true, false, false, false, false, false, true, true, true, true, true, true, true, true, true, true, true, true, true, true, true, true, true, true, true, true, true, true, true, true, true, true, true, true, true, true, true, true] s.t } Q := run_loop_pre
def billinglaw32_CounterTotals_l2b : AC := (.seq (.seq (.reg [
      ⟨some 46, .mv (.t 9), none⟩,
      ⟨some 47, .al 3, none⟩,
      ⟨some 48, .len false (.t 47) (some 3), none⟩,
      ⟨some 49, .bin .lss (.t 46) (.t 48), none⟩])
    (.cond (.t 49) .skip
      (.exit 2)))
  (.seq (.blk 3 (.seq (.reg [
          ⟨some 52, .mv (.t 4), none⟩,
          ⟨some 53, .al 3, none⟩,
          ⟨some 54, .mv (.t 9), none⟩,
          ⟨some 55, .ia (.t 53) (.t 54) 5 none (some 3), none⟩,
          ⟨some 56, .fa (.t 55) 3 none, none⟩,
          ⟨some 57, .ld (.t 56) none false none, none⟩,
          ⟨some 58, .bin .sub (.t 52) (.t 57), none⟩,
          ⟨some 4, .mv (.t 58), none⟩])
        (.reg [
          ⟨some 59, .mv (.t 5), none⟩,
          ⟨some 60, .al 3, none⟩,
          ⟨some 61, .mv (.t 9), none⟩,
          ⟨some 62, .ia (.t 60) (.t 61) 5 none (some 3), none⟩,
          ⟨some 63, .fa (.t 62) 4 none, none⟩,
          ⟨some 64, .ld (.t 63) none false none, none⟩,
          ⟨some 65, .bin .sub (.t 59) (.t 64), none⟩,
          ⟨some 5, .mv (.t 65), none⟩])))
    (.reg [
      ⟨some 50, .mv (.t 9), none⟩,
      ⟨some 51, .bin .add (.t 50) (.c (.int .i64 1)), none⟩,
      ⟨some 9, .mv (.t 51), none⟩])))
def billinglaw32_CounterTotals_l2 : AC := .pre [false, false, false, false, false, false, false, false, false, false, false, false, false, false, false, false, false, false, false, false, false, false, false, false, false, false, false, false, false, false, false, false, false, false, false, false, false, false, false, false, false, false, false, false, false, false, true, true, true, true, true, true, true, true, true, true, true, true, true, true, true, true, true, true, true, true] billinglaw32_CounterTotals_l2b
@[go_sem] theorem billinglaw32_CounterTotals_l2_go {M : Mach} {k : List It} {s : St} {Q : Ex → St → Prop} : Run M (.c (.loop billinglaw32_CounterTotals_l2) :: k) .norm s Q ↔ Run M (.c billinglaw32_CounterTotals_l2b :: .lp billinglaw32_CounterTotals_l2 :: k) .norm { s with t := killM [false, false, false, false, false, false, false, false, false, false, false, false, false, false, false, false, false, false, false, false, false, false, false, false, false, false, false, false, false, false, false, false, false, false, false, false, false, false, false, false, false, false, false, false, false, false, true, true, true, true, true, true, true, true, true, true, true, true, true, true, true, true, true, true, true, true] [false, false, false, false, false, false, false, false, false, false, false, false, false, false, false, false, false, false, false, false, false, false, false, false, false, false, false, false, false, false, false, false, false, false, false, false, false, false, false, false, false, false, false, false, false, false, true, true, true, true, true, true, true, true, true, true, true, true, true, true, true, true, true, true, true, true] s.t } Q := run_loop_pre
@[go_sem] theorem billinglaw32_CounterTotals_l2_lp {M : Mach} {k : List It} {s : St} {Q : Ex → St → Prop} : Run M (.lp billinglaw32_CounterTotals_l2 :: k) .norm s Q ↔ Run M (.c billinglaw32_CounterTotals_l2b :: .lp billinglaw32_CounterTotals_l2 :: k) .norm { s with t := killM [false, false, false, false, false, false, false, false, false, false, false, false, false, false, false, false, false, false, false, false, false, false, false, false, false, false, false, false, false, false, false, false, false, false, false, false, false, false, false, false, false, false, false, false, false, false, true, true, true, true, true, true, true, true, true, true, true, true, true, true, true, true, true, true, true, true] [false, false, false, false, false, false, false, false, false, false, false, false, false, false, false, false, false, false, false, false, false, false, false, false, false, false, false, false, false, false, false, false, false, false, false, false, false, false, false, false, false, false, false, false, false, false, true, true, true, true, true, true, true, true, true, true, true, true, true, true, true, true, true, true, true, true] s.t } Q := run_loop_pre
def a_billinglaw32_CounterTotals : AF := ⟨79, (.seq (.reg [
    ⟨some 2, .mv (.c (.bool false)), none⟩])
  (.seq (.seq (.reg [
        ⟨some 10, .cp (.t 0), none⟩,
        ⟨some 11, .len false (.t 10) (some 0), none⟩,
        ⟨some 12, .bin .gtr (.t 11) (.c (.int .i64 60)), none⟩])
      (.cond (.t 12) (.seq (.reg [
            ⟨some 13, .call n_billinglaw32_awake [] false, none⟩,
            ⟨some 2, .mv (.t 13), none⟩])
          .ret)
        .skip))
    (.seq (.reg [
        ⟨some 3, .mv (.c (.sl false 5 [])), none⟩,
        ⟨none, .cm 3, none⟩])
      (.seq (.reg [
          ⟨some 4, .mv (.c (.int .i64 0)), none⟩,
          ⟨some 5, .mv (.c (.int .i64 0)), none⟩])
        (.seq (.seq (.reg [
              ⟨some 6, .mv (.c (.int .i64 0)), none⟩])
            (.blk 0 (.pre [false, false, true, false, false, false, false, false, false, false, true, true, true, true] (.loop billinglaw32_CounterTotals_l1))))
          (.pre [true, false, true, false, false, false, true, true, true, false, true, true, true, true, true, true, true, true, true, true, true, true, true, true, true, true, true, true, true, true, true, true, true, true, true, true, true, true, true, true, true, true, true, true, true, true] (.seq (.seq (.reg [
                ⟨some 9, .mv (.c (.int .i64 0)), none⟩])
              (.blk 2 (.loop billinglaw32_CounterTotals_l2)))
            (.pre [false, false, false, false, false, false, false, false, false, true, false, false, false, false, false, false, false, false, false, false, false, false, false, false, false, false, false, false, false, false, false, false, false, false, false, false, false, false, false, false, false, false, false, false, false, false, true, true, true, true, true, true, true, true, true, true, true, true, true, true, true, true, true, true, true, true] (.seq (.reg [
                ⟨some 66, .mv (.t 4), none⟩,
                ⟨some 67, .bin .eql (.t 66) (.c (.int .i64 0)), none⟩,
                ⟨some 68, .mv (.t 67), none⟩,
                ⟨some 69, .mv (.t 5), some (68, true)⟩,
                ⟨some 70, .bin .eql (.t 69) (.c (.int .i64 0)), some (68, true)⟩,
                ⟨some 71, .pick (.t 68) (.t 70) (.c (.bool false)), none⟩,
                ⟨some 72, .mv (.t 71), none⟩,
                ⟨none, .cm 3, none⟩,
                ⟨some 73, .cp (.t 3), some (72, true)⟩,
                ⟨none, .cm 73, none⟩,
                ⟨some 74, .call n_counter_Check [((.t 73), false)] false, some (72, true)⟩,
                ⟨some 75, .pick (.t 72) (.t 74) (.c (.bool false)), none⟩,
                ⟨some 76, .mv (.t 75), none⟩,
                ⟨some 77, .call n_billinglaw32_awake [] false, some (76, true)⟩,
                ⟨some 78, .pick (.t 76) (.t 77) (.c (.bool false)), none⟩,
                ⟨some 2, .mv (.t 78), none⟩])
              (.pre [false, false, false, true] .ret)))))))))), [.tmp 2]⟩

/- billing/billinglaw32.awake -/
def a_billinglaw32_awake : AF := ⟨56, (.seq (.reg [
    ⟨some 0, .mv (.c (.bool false)), none⟩])
  (.seq (.reg [
      ⟨some 6, .build [(.int .i64 0), (.int .i64 0), (.int .i64 0), (.int .i64 0), (.int .i64 0)] [(0, 1, (.c (.int .i64 1))), (1, 1, (.c (.int .i64 1))), (3, 1, (.c (.int .i64 60))), (4, 1, (.c (.int .i64 20)))], none⟩,
      ⟨some 1, .newbox [(.int .i64 0), (.int .i64 0), (.int .i64 0), (.int .i64 0), (.int .i64 0)], none⟩,
      ⟨none, .st (.t 1) (.t 6) 5 false (some 1), none⟩])
    (.seq (.reg [
        ⟨some 8, .ld (.t 1) (some 5) false (some 1), none⟩,
        ⟨some 9, .call n_counter_Add [((.c (.sl false 5 [])), false), ((.t 8), false)] false, none⟩,
        ⟨some 7, .mv (.t 9), none⟩,
        ⟨some 10, .ext 7 0, none⟩,
        ⟨none, .cm 10, none⟩,
        ⟨some 11, .ext 7 1, none⟩,
        ⟨some 2, .mv (.t 10), none⟩,
        ⟨none, .cm 2, none⟩,
        ⟨some 3, .mv (.t 11), none⟩])
      (.seq (.reg [
          ⟨none, .cm 2, none⟩,
          ⟨some 13, .cp (.t 2), none⟩,
          ⟨some 14, .ld (.t 1) (some 5) false (some 1), none⟩,
          ⟨none, .cm 13, none⟩,
          ⟨some 15, .call n_counter_Add [((.t 13), false), ((.t 14), false)] false, none⟩,
          ⟨some 12, .mv (.t 15), none⟩,
          ⟨some 16, .ext 12 0, none⟩,
          ⟨none, .cm 16, none⟩,
          ⟨some 17, .ext 12 1, none⟩,
          ⟨some 4, .mv (.t 16), none⟩,
          ⟨none, .cm 4, none⟩,
          ⟨some 5, .mv (.t 17), none⟩])
        (.seq (.reg [
            ⟨some 18, .mv (.t 3), none⟩,
            ⟨some 19, .bin .eql (.t 18) (.c (.int .i64 0)), none⟩,
            ⟨some 20, .mv (.t 19), none⟩,
            ⟨some 21, .mv (.t 5), some (20, true)⟩,
            ⟨some 22, .bin .eql (.t 21) (.c (.int .i64 0)), some (20, true)⟩,
            ⟨some 23, .pick (.t 20) (.t 22) (.c (.bool false)), none⟩,
            ⟨some 24, .mv (.t 23), none⟩,
            ⟨some 25, .al 4, some (24, true)⟩,
            ⟨some 26, .len false (.t 25) (some 4), some (24, true)⟩,
            ⟨some 27, .bin .eql (.t 26) (.c (.int .i64 1)), some (24, true)⟩,
            ⟨some 28, .pick (.t 24) (.t 27) (.c (.bool false)), none⟩,
            ⟨some 29, .mv (.t 28), none⟩,
            ⟨none, .cm 4, none⟩,
            ⟨some 30, .cp (.t 4), some (29, true)⟩,
            ⟨none, .cm 30, none⟩,
            ⟨some 31, .call n_counter_Get [((.t 30), false), ((.c (.int .i64 1)), false), ((.c (.int .i64 1)), false), ((.c (.int .i64 0)), false)] false, some (29, true)⟩,
            ⟨some 32, .build [(.int .i64 0), (.int .i64 0), (.int .i64 0), (.int .i64 0), (.int .i64 0)] [(0, 1, (.c (.int .i64 1))), (1, 1, (.c (.int .i64 1))), (3, 1, (.c (.int .i64 120))), (4, 1, (.c (.int .i64 40)))], some (29, true)⟩,
            ⟨some 33, .eqs false [0, 0, 0, 0, 0] (.t 31) (.t 32), some (29, true)⟩,
            ⟨some 34, .pick (.t 29) (.t 33) (.c (.bool false)), none⟩,
            ⟨some 35, .mv (.t 34), none⟩,
            ⟨none, .cm 4, none⟩,
            ⟨some 36, .cp (.t 4), some (35, true)⟩,
            ⟨none, .cm 36, none⟩,
            ⟨some 37, .call n_counter_Check [((.t 36), false)] false, some (35, true)⟩,
            ⟨some 38, .pick (.t 35) (.t 37) (.c (.bool false)), none⟩,
            ⟨some 39, .mv (.t 38), none⟩,
            ⟨none, .cm 4, none⟩,
            ⟨some 40, .cp (.t 4), some (39, true)⟩,
            ⟨none, .cm 40, none⟩,
            ⟨some 41, .call n_counter_Drop [((.t 40), false), ((.c (.int .i64 1)), false)] false, some (39, true)⟩,
            ⟨none, .cm 41, none⟩,
            ⟨some 42, .len false (.t 41) none, some (39, true)⟩,
            ⟨some 43, .bin .eql (.t 42) (.c (.int .i64 0)), some (39, true)⟩,
            ⟨some 44, .pick (.t 39) (.t 43) (.c (.bool false)), none⟩,
            ⟨some 45, .mv (.t 44), none⟩,
            ⟨none, .cm 4, none⟩,
            ⟨some 46, .cp (.t 4), some (45, true)⟩,
            ⟨none, .cm 46, none⟩,
            ⟨some 47, .call n_counter_Drop [((.t 46), false), ((.c (.int .i64 0)), false)] false, some (45, true)⟩,
            ⟨none, .cm 47, none⟩,
            ⟨some 48, .len false (.t 47) none, some (45, true)⟩,
            ⟨some 49, .bin .eql (.t 48) (.c (.int .i64 1)), some (45, true)⟩,
            ⟨some 50, .pick (.t 45) (.t 49) (.c (.bool false)), none⟩,
            ⟨some 51, .mv (.t 50), none⟩,
            ⟨some 52, .call n_counter_Get [((.c (.sl false 5 [])), false), ((.c (.int .i64 2)), false), ((.c (.int .i64 3)), false), ((.c (.int .i64 4)), false)] false, some (51, true)⟩,
            ⟨some 53, .build [(.int .i64 0), (.int .i64 0), (.int .i64 0), (.int .i64 0), (.int .i64 0)] [(0, 1, (.c (.int .i64 2))), (1, 1, (.c (.int .i64 3))), (2, 1, (.c (.int .i64 4)))], some (51, true)⟩,
            ⟨some 54, .eqs false [0, 0, 0, 0, 0] (.t 52) (.t 53), some (51, true)⟩,
            ⟨some 55, .pick (.t 51) (.t 54) (.c (.bool false)), none⟩,
            ⟨some 0, .mv (.t 55), none⟩])
          .ret))))), [.tmp 0]⟩

/- billing/counter.Check -/
def counter_Check_l1b : AC := (.seq (.reg [
    ⟨some 8, .bin .lss (.t 7) (.t 6), none⟩])
  (.seq (.cond (.t 8) .skip
      (.exit 0))
    (.seq (.blk 1 (.seq (.reg [
            ⟨some 9, .mv (.t 7), none⟩,
            ⟨some 10, .ia (.t 5) (.t 7) 5 none (some 0), none⟩,
            ⟨some 11, .ld (.t 10) (some 5) false none, none⟩,
            ⟨some 4, .newbox [(.int .i64 0), (.int .i64 0), (.int .i64 0), (.int .i64 0), (.int .i64 0)], none⟩,
            ⟨some 3, .mv (.t 9), none⟩,
            ⟨none, .st (.t 4) (.t 11) 5 false (some 4), none⟩])
          (.seq (.seq (.reg [
                ⟨some 12, .ld (.t 4) (some 5) false (some 4), none⟩,
                ⟨some 13, .call n_counter_permitted [((.t 12), false)] false, none⟩,
                ⟨some 14, .un .not (.t 13), none⟩,
                ⟨some 15, .mv (.t 14), none⟩,
                ⟨some 16, .ld (.t 4) (some 5) false (some 4), some (15, false)⟩,
                ⟨some 17, .call n_counter_ranged [((.t 16), false)] false, some (15, false)⟩,
                ⟨some 18, .un .not (.t 17), some (15, false)⟩,
                ⟨some 19, .pick (.t 15) (.c (.bool true)) (.t 18), none⟩,
                ⟨some 20, .mv (.t 19), none⟩,
                ⟨some 21, .fa (.t 4) 3 (some 4), some (20, false)⟩,
                ⟨some 22, .ld (.t 21) none false (some 4), some (20, false)⟩,
                ⟨some 23, .bin .eql (.t 22) (.c (.int .i64 0)), some (20, false)⟩,
                ⟨some 24, .mv (.t 23), some (20, false)⟩,
                ⟨some 25, .fa (.t 4) 4 (some 4), some (24, true)⟩,
                ⟨some 26, .ld (.t 25) none false (some 4), some (24, true)⟩,
                ⟨some 27, .bin .eql (.t 26) (.c (.int .i64 0)), some (24, true)⟩,
                ⟨some 28, .pick (.t 24) (.t 27) (.c (.bool false)), some (20, false)⟩,
                ⟨some 29, .pick (.t 20) (.c (.bool true)) (.t 28), none⟩])
              (.cond (.t 29) (.seq (.reg [
                    ⟨some 2, .mv (.c (.bool false)), none⟩])
                  .ret)
                .skip))
            (.seq (.dreg [
                ⟨some 30, .cp (.t 3), none⟩,
                ⟨some 31, .bin .gtr (.t 30) (.c (.int .i64 0)), none⟩,
                ⟨some 32, .cp (.t 31), none⟩,
                ⟨some 33, .cp (.t 0), some (32, true)⟩,
                ⟨some 34, .cp (.t 3), some (32, true)⟩,
                ⟨some 35, .bin .sub (.t 34) (.c (.int .i64 1)), some (32, true)⟩,
                ⟨some 36, .ia (.t 33) (.t 35) 5 none (some 0), some (32, true)⟩,
                ⟨some 37, .ld (.t 36) (some 5) false none, some (32, true)⟩,
                ⟨some 38, .ld (.t 4) (some 5) false (some 4), some (32, true)⟩,
                ⟨some 39, .call n_counter_compare [((.t 37), false), ((.t 38), false)] false, some (32, true)⟩,
                ⟨some 40, .bin .geq (.t 39) (.c (.int .i64 0)), some (32, true)⟩,
                ⟨some 41, .pick (.t 32) (.t 40) (.c (.bool false)), none⟩])
              (.cond (.t 41) (.seq (.reg [
                    ⟨some 2, .mv (.c (.bool false)), none⟩])
                  .ret)
                .skip)))))
      (.reg [
        ⟨some 42, .bin .add (.t 7) (.c (.int .i64 1)), none⟩,
        ⟨some 7, .mv (.t 42), none⟩]))))
def counter_Check_l1 : AC := .pre [false, false, true, true, true, false, false, false, true, true, true, true, true, true, true, true, true, true, true, true, true, true, true, true, true, true, true, true, true, true, true, true, true, true, true, true, true, true, true, true, true, true, true] counter_Check_l1b
@[go_sem] theorem counter_Check_l1_go {M : Mach} {k : List It} {s : St} {Q : Ex → St → Prop} : Run M (.c (.loop counter_Check_l1) :: k) .norm s Q ↔ Run M (.c counter_Check_l1b :: .lp counter_Check_l1 :: k) .norm { s with t := killM [false, false, true, true, true, false, false, false, true, true, true, true, true, true, true, true, true, true, true, true, true, true, true, true, true, true, true, true, true, true, true, true, true, true, true, true, true, true, true, true, true, true, true] [false, false, true, true, true, false, false, false, true, true, true, true, true, true, true, true, true, true, true, true, true, true, true, true, true, true, true, true, true, true, true, true, true, true, true, true, true, true, true, true, true, true, true] s.t } Q := run_loop_pre
@[go_sem] theorem counter_Check_l1_lp {M : Mach} {k : List It} {s : St} {Q : Ex → St → Prop} : Run M (.lp counter_Check_l1 :: k) .norm s Q ↔ Run M (.c counter_Check_l1b :: .lp counter_Check_l1 :: k) .norm { s with t := killM [false, false, true, true, true, false, false, false, true, true, true, true, true, true, true, true, true, true, true, true, true, true, true, true, true, true, true, true, true, true, true, true, true, true, true, true, true, true, true, true, true, true, true] [false, false, true, true, true, false, false, false, true, true, true, true, true, true, true, true, true, true, true, true, true, true, true, true, true, true, true, true, true, true, true, true, true, true, true, true, true, true, true, true, true, true, true] s.t } Q := run_loop_pre
def a_counter_Check : AF := ⟨43, (.seq (.reg [
    ⟨some 2, .mv (.c (.bool false)), none⟩])
  (.seq (.seq (.reg [
        ⟨some 5, .cp (.t 0), none⟩,
        ⟨some 6, .len false (.t 5) (some 0), none⟩,
        ⟨some 7, .mv (.c (.int .i64 0)), none⟩])
      (.blk 0 (.loop counter_Check_l1)))
    (.pre [true, false, true, true, true, true, true, true, true, true, true, true, true, true, true, true, true, true, true, true, true, true, true, true, true, true, true, true, true, true, true, true, true, true, true, true, true, true, true, true, true, true, true] (.seq (.reg [
        ⟨some 2, .mv (.c (.bool true)), none⟩])
      .ret)))), [.tmp 2]⟩

/- billing/billingref32.Check -/
def billingref32_Check_l1b : AC := (.seq (.seq (.reg [
      ⟨some 5, .mv (.t 3), none⟩,
      ⟨some 6, .cp (.t 0), none⟩,
      ⟨some 7, .len false (.t 6) (some 0), none⟩,
      ⟨some 8, .bin .lss (.t 5) (.t 7), none⟩])
    (.cond (.t 8) .skip
      (.exit 0)))
  (.seq (.blk 1 (.seq (.reg [
          ⟨some 11, .cp (.t 0), none⟩,
          ⟨some 12, .mv (.t 3), none⟩,
          ⟨some 13, .ia (.t 11) (.t 12) 5 none (some 0), none⟩,
          ⟨some 14, .ld (.t 13) (some 5) false none, none⟩,
          ⟨some 4, .newbox [(.int .i64 0), (.int .i64 0), (.int .i64 0), (.int .i64 0), (.int .i64 0)], none⟩,
          ⟨none, .st (.t 4) (.t 14) 5 false (some 4), none⟩])
        (.seq (.dreg [
            ⟨some 15, .ld (.t 4) (some 5) false (some 4), none⟩,
            ⟨some 16, .call n_billingref32_keyed [((.t 15), false)] false, none⟩,
            ⟨some 17, .un .not (.t 16), none⟩,
            ⟨some 18, .cp (.t 17), none⟩,
            ⟨some 19, .ld (.t 4) (some 5) false (some 4), some (18, false)⟩,
            ⟨some 20, .call n_billingref32_within [((.t 19), false)] false, some (18, false)⟩,
            ⟨some 21, .un .not (.t 20), some (18, false)⟩,
            ⟨some 22, .pick (.t 18) (.c (.bool true)) (.t 21), none⟩,
            ⟨some 23, .cp (.t 22), none⟩,
            ⟨some 24, .fa (.t 4) 3 (some 4), some (23, false)⟩,
            ⟨some 25, .ld (.t 24) none false (some 4), some (23, false)⟩,
            ⟨some 26, .bin .eql (.t 25) (.c (.int .i64 0)), some (23, false)⟩,
            ⟨some 27, .cp (.t 26), some (23, false)⟩,
            ⟨some 28, .fa (.t 4) 4 (some 4), some (27, true)⟩,
            ⟨some 29, .ld (.t 28) none false (some 4), some (27, true)⟩,
            ⟨some 30, .bin .eql (.t 29) (.c (.int .i64 0)), some (27, true)⟩,
            ⟨some 31, .pick (.t 27) (.t 30) (.c (.bool false)), some (23, false)⟩,
            ⟨some 32, .pick (.t 23) (.c (.bool true)) (.t 31), none⟩,
            ⟨some 33, .cp (.t 32), none⟩,
            ⟨some 34, .cp (.t 3), some (33, false)⟩,
            ⟨some 35, .bin .gtr (.t 34) (.c (.int .i64 0)), some (33, false)⟩,
            ⟨some 36, .cp (.t 35), some (33, false)⟩,
            ⟨some 37, .cp (.t 0), some (36, true)⟩,
            ⟨some 38, .cp (.t 3), some (36, true)⟩,
            ⟨some 39, .bin .sub (.t 38) (.c (.int .i64 1)), some (36, true)⟩,
            ⟨some 40, .ia (.t 37) (.t 39) 5 none (some 0), some (36, true)⟩,
            ⟨some 41, .ld (.t 40) (some 5) false none, some (36, true)⟩,
            ⟨some 42, .ld (.t 4) (some 5) false (some 4), some (36, true)⟩,
            ⟨some 43, .call n_billingref32_order [((.t 41), false), ((.t 42), false)] false, some (36, true)⟩,
            ⟨some 44, .bin .geq (.t 43) (.c (.int .i64 0)), some (36, true)⟩,
            ⟨some 45, .pick (.t 36) (.t 44) (.c (.bool false)), some (33, false)⟩,
            ⟨some 46, .pick (.t 33) (.c (.bool true)) (.t 45), none⟩])
          (.cond (.t 46) (.seq (.reg [
                ⟨some 2, .mv (.c (.bool false)), none⟩])
              .ret)
            .skip))))
    (.reg [
      ⟨some 9, .mv (.t 3), none⟩,
      ⟨some 10, .bin .add (.t 9) (.c (.int .i64 1)), none⟩,
      ⟨some 3, .mv (.t 10), none⟩])))
def billingref32_Check_l1 : AC := .pre [false, false, true, false, true, true, true, true, true, true, true, true, true, true, true, true, true, true, true, true, true, true, true, true, true, true, true, true, true, true, true, true, true, true, true, true, true, true, true, true, true, true, true, true, true, true, true] billingref32_Check_l1b
@[go_sem] theorem billingref32_Check_l1_go {M : Mach} {k : List It} {s : St} {Q : Ex → St → Prop} : Run M (.c (.loop billingref32_Check_l1) :: k) .norm s Q ↔ Run M (.c billingref32_Check_l1b :: .lp billingref32_Check_l1 :: k) .norm { s with t := killM [false, false, true, false, true, true, true, true, true, true, true, true, true, true, true, true, true, true, true, true, true, true, true, true, true, true, true, true, true, true, true, true, true, true, true, true, true, true, true, true, true, true, true, true, true, true, true] [false, false, true, false, true, true, true, true, true, true, true, true, true, true, true, true, true, true, true, true, true, true, true, true, true, true, true, true, true, true, true, true, true, true, true, true, true, true, true, true, true, true, true, true, true, true, true] s.t } Q := run_loop_pre
@[go_sem] theorem billingref32_Check_l1_lp {M : Mach} {k : List It} {s : St} {Q : Ex → St → Prop} : Run M (.lp billingref32_Check_l1 :: k) .norm s Q ↔ Run M (.c billingref32_Check_l1b :: .lp billingref32_Check_l1 :: k) .norm { s with t := killM [false, false, true, false, true, true, true, true, true, true, true, true, true, true, true, true, true, true, true, true, true, true, true, true, true, true, true, true, true, true, true, true, true, true, true, true, true, true, true, true, true, true, true, true, true, true, true] [false, false, true, false, true, true, true, true, true, true, true, true, true, true, true, true, true, true, true, true, true, true, true, true, true, true, true, true, true, true, true, true, true, true, true, true, true, true, true, true, true, true, true, true, true, true, true] s.t } Q := run_loop_pre
def a_billingref32_Check : AF := ⟨47, (.seq (.reg [
    ⟨some 2, .mv (.c (.bool false)), none⟩])
  (.seq (.seq (.reg [
        ⟨some 3, .mv (.c (.int .i64 0)), none⟩])
      (.blk 0 (.loop billingref32_Check_l1)))
    (.pre [true, false, true, true, true, true, true, true, true, true, true, true, true, true, true, true, true, true, true, true, true, true, true, true, true, true, true, true, true, true, true, true, true, true, true, true, true, true, true, true, true, true, true, true, true, true, true] (.seq (.reg [
        ⟨some 2, .mv (.c (.bool true)), none⟩])
      .ret)))), [.tmp 2]⟩

/- billing/counter.Get -/
def counter_Get_l1b : AC := (.seq (.reg [
    ⟨some 19, .bin .lss (.t 18) (.t 17), none⟩])
  (.seq (.cond (.t 19) .skip
      (.exit 0))
    (.seq (.blk 1 (.seq (.reg [
            ⟨some 20, .ia (.t 16) (.t 18) 5 none (some 0), none⟩,
            ⟨some 21, .ld (.t 20) (some 5) false none, none⟩,
            ⟨some 11, .newbox [(.int .i64 0), (.int .i64 0), (.int .i64 0), (.int .i64 0), (.int .i64 0)], none⟩,
            ⟨none, .st (.t 11) (.t 21) 5 false (some 11), none⟩])
          (.seq (.reg [
              ⟨some 22, .ld (.t 11) (some 5) false (some 11), none⟩,
              ⟨some 23, .ld (.t 9) (some 5) false (some 9), none⟩,
              ⟨some 24, .call n_counter_compare [((.t 22), false), ((.t 23), false)] false, none⟩,
              ⟨some 25, .bin .eql (.t 24) (.c (.int .i64 0)), none⟩])
            (.cond (.t 25) (.seq (.reg [
                  ⟨some 26, .ld (.t 11) (some 5) false (some 11), none⟩,
                  ⟨none, .st (.t 8) (.t 26) 5 false (some 8), none⟩])
                .ret)
              .skip))))
      (.reg [
        ⟨some 27, .bin .add (.t 18) (.c (.int .i64 1)), none⟩,
        ⟨some 18, .mv (.t 27), none⟩]))))
def counter_Get_l1 : AC := .pre [false, false, false, false, false, false, false, false, false, false, false, true, false, false, false, false, false, false, false, true, true, true, true, true, true, true, true, true] counter_Get_l1b
@[go_sem] theorem counter_Get_l1_go {M : Mach} {k : List It} {s : St} {Q : Ex → St → Prop} : Run M (.c (.loop counter_Get_l1) :: k) .norm s Q ↔ Run M (.c counter_Get_l1b :: .lp counter_Get_l1 :: k) .norm { s with t := killM [false, false, false, false, false, false, false, false, false, false, false, true, false, false, false, false, false, false, false, true, true, true, true, true, true, true, true, true] [false, false, false, false, false, false, false, false, false, false, false, true, false, false, false, false, false, false, false, true, true, true, true, true, true, true, true, true] s.t } Q := run_loop_pre
@[go_sem] theorem counter_Get_l1_lp {M : Mach} {k : List It} {s : St} {Q : Ex → St → Prop} : Run M (.lp counter_Get_l1 :: k) .norm s Q ↔ Run M (.c counter_Get_l1b :: .lp counter_Get_l1 :: k) .norm { s with t := killM [false, false, false, false, false, false, false, false, false, false, false, true, false, false, false, false, false, false, false, true, true, true, true, true, true, true, true, true] [false, false, false, false, false, false, false, false, false, false, false, true, false, false, false, false, false, false, false, true, true, true, true, true, true, true, true, true] s.t } Q := run_loop_pre
def a_counter_Get : AF := ⟨29, (.seq (.reg [
    ⟨some 8, .newbox [(.int .i64 0), (.int .i64 0), (.int .i64 0), (.int .i64 0), (.int .i64 0)], none⟩])
  (.seq (.reg [
      ⟨some 12, .mv (.t 1), none⟩,
      ⟨some 13, .mv (.t 2), none⟩,
      ⟨some 14, .mv (.t 3), none⟩,
      ⟨some 15, .build [(.int .i64 0), (.int .i64 0), (.int .i64 0), (.int .i64 0), (.int .i64 0)] [(0, 1, (.t 12)), (1, 1, (.t 13)), (2, 1, (.t 14))], none⟩,
      ⟨some 9, .newbox [(.int .i64 0), (.int .i64 0), (.int .i64 0), (.int .i64 0), (.int .i64 0)], none⟩,
      ⟨none, .st (.t 9) (.t 15) 5 false (some 9), none⟩])
    (.seq (.seq (.reg [
          ⟨some 16, .cp (.t 0), none⟩,
          ⟨some 17, .len false (.t 16) (some 0), none⟩,
          ⟨some 18, .mv (.c (.int .i64 0)), none⟩])
        (.blk 0 (.pre [false, true, true, true, false, false, false, false, false, false, false, false, true, true, true, true] (.loop counter_Get_l1))))
      (.pre [true, true, true, true, false, false, false, false, false, false, false, true, true, true, true, true, true, true, true, true, true, true, true, true, true, true, true, true] (.seq (.reg [
          ⟨some 28, .ld (.t 9) (some 5) false (some 9), none⟩,
          ⟨none, .st (.t 8) (.t 28) 5 false (some 8), none⟩])
        .ret))))), [.cell 8 (some 5)]⟩

/- billing/billingref32.Get -/
def billingref32_Get_l1b : AC := (.seq (.seq (.reg [
      ⟨some 15, .mv (.t 10), none⟩,
      ⟨some 16, .cp (.t 0), none⟩,
      ⟨some 17, .len false (.t 16) (some 0), none⟩,
      ⟨some 18, .bin .lss (.t 15) (.t 17), none⟩])
    (.cond (.t 18) .skip
      (.exit 0)))
  (.seq (.blk 1 (.seq (.dreg [
          ⟨some 21, .cp (.t 0), none⟩,
          ⟨some 22, .cp (.t 10), none⟩,
          ⟨some 23, .ia (.t 21) (.t 22) 5 none (some 0), none⟩,
          ⟨some 24, .ld (.t 23) (some 5) false none, none⟩,
          ⟨some 25, .ld (.t 9) (some 5) false (some 9), none⟩,
          ⟨some 26, .call n_billingref32_order [((.t 24), false), ((.t 25), false)] false, none⟩,
          ⟨some 27, .bin .eql (.t 26) (.c (.int .i64 0)), none⟩])
        (.cond (.t 27) (.seq (.reg [
              ⟨some 28, .cp (.t 0), none⟩,
              ⟨some 29, .mv (.t 10), none⟩,
              ⟨some 30, .ia (.t 28) (.t 29) 5 none (some 0), none⟩,
              ⟨some 31, .ld (.t 30) (some 5) false none, none⟩,
              ⟨none, .st (.t 8) (.t 31) 5 false (some 8), none⟩])
            .ret)
          .skip)))
    (.reg [
      ⟨some 19, .mv (.t 10), none⟩,
      ⟨some 20, .bin .add (.t 19) (.c (.int .i64 1)), none⟩,
      ⟨some 10, .mv (.t 20), none⟩])))
def billingref32_Get_l1 : AC := .pre [false, false, false, false, false, false, false, false, false, false, false, false, false, false, false, true, true, true, true, true, true, true, true, true, true, true, true, true, true, true, true, true] billingref32_Get_l1b
@[go_sem] theorem billingref32_Get_l1_go {M : Mach} {k : List It} {s : St} {Q : Ex → St → Prop} : Run M (.c (.loop billingref32_Get_l1) :: k) .norm s Q ↔ Run M (.c billingref32_Get_l1b :: .lp billingref32_Get_l1 :: k) .norm { s with t := killM [false, false, false, false, false, false, false, false, false, false, false, false, false, false, false, true, true, true, true, true, true, true, true, true, true, true, true, true, true, true, true, true] [false, false, false, false, false, false, false, false, false, false, false, false, false, false, false, true, true, true, true, true, true, true, true, true, true, true, true, true, true, true, true, true] s.t } Q := run_loop_pre
@[go_sem] theorem billingref32_Get_l1_lp {M : Mach} {k : List It} {s : St} {Q : Ex → St → Prop} : Run M (.lp billingref32_Get_l1 :: k) .norm s Q ↔ Run M (.c billingref32_Get_l1b :: .lp billingref32_Get_l1 :: k) .norm { s with t := killM [false, false, false, false, false, false, false, false, false, false, false, false, false, false, false, true, true, true, true, true, true, true, true, true, true, true, true, true, true, true, true, true] [false, false, false, false, false, false, false, false, false, false, false, false, false, false, false, true, true, true, true, true, true, true, true, true, true, true, true, true, true, true, true, true] s.t } Q := run_loop_pre
def a_billingref32_Get : AF := ⟨33, (.seq (.reg [
    ⟨some 8, .newbox [(.int .i64 0), (.int .i64 0), (.int .i64 0), (.int .i64 0), (.int .i64 0)], none⟩])
  (.seq (.reg [
      ⟨some 11, .mv (.t 1), none⟩,
      ⟨some 12, .mv (.t 2), none⟩,
      ⟨some 13, .mv (.t 3), none⟩,
      ⟨some 14, .build [(.int .i64 0), (.int .i64 0), (.int .i64 0), (.int .i64 0), (.int .i64 0)] [(0, 1, (.t 11)), (1, 1, (.t 12)), (2, 1, (.t 13))], none⟩,
      ⟨some 9, .newbox [(.int .i64 0), (.int .i64 0), (.int .i64 0), (.int .i64 0), (.int .i64 0)], none⟩,
      ⟨none, .st (.t 9) (.t 14) 5 false (some 9), none⟩])
    (.seq (.seq (.reg [
          ⟨some 10, .mv (.c (.int .i64 0)), none⟩])
        (.blk 0 (.pre [false, true, true, true, false, false, false, false, false, false, false, true, true, true, true] (.loop billingref32_Get_l1))))
      (.pre [true, true, true, true, false, false, false, false, false, false, true, true, true, true, true, true, true, true, true, true, true, true, true, true, true, true, true, true, true, true, true, true] (.seq (.reg [
          ⟨some 32, .ld (.t 9) (some 5) false (some 9), none⟩,
          ⟨none, .st (.t 8) (.t 32) 5 false (some 8), none⟩])
        .ret))))), [.cell 8 (some 5)]⟩

/- billing/billingref32.Same -/
def billingref32_Same_l1b : AC := (.seq (.seq (.reg [
      ⟨some 11, .mv (.t 5), none⟩,
      ⟨some 12, .cp (.t 0), none⟩,
      ⟨some 13, .len false (.t 12) (some 0), none⟩,
      ⟨some 14, .bin .lss (.t 11) (.t 13), none⟩])
    (.cond (.t 14) .skip
      (.exit 0)))
  (.seq (.blk 1 (.seq (.dreg [
          ⟨some 17, .cp (.t 0), none⟩,
          ⟨some 18, .cp (.t 5), none⟩,
          ⟨some 19, .ia (.t 17) (.t 18) 5 none (some 0), none⟩,
          ⟨some 20, .ld (.t 19) (some 5) false none, none⟩,
          ⟨some 21, .cp (.t 1), none⟩,
          ⟨some 22, .cp (.t 5), none⟩,
          ⟨some 23, .ia (.t 21) (.t 22) 5 none (some 1), none⟩,
          ⟨some 24, .ld (.t 23) (some 5) false none, none⟩,
          ⟨some 25, .eqs true [0, 0, 0, 0, 0] (.t 20) (.t 24), none⟩])
        (.cond (.t 25) (.seq (.reg [
              ⟨some 4, .mv (.c (.bool false)), none⟩])
            .ret)
          .skip)))
    (.reg [
      ⟨some 15, .mv (.t 5), none⟩,
      ⟨some 16, .bin .add (.t 15) (.c (.int .i64 1)), none⟩,
      ⟨some 5, .mv (.t 16), none⟩])))
def billingref32_Same_l1 : AC := .pre [false, false, false, false, true, false, false, false, false, false, false, true, true, true, true, true, true, true, true, true, true, true, true, true, true, true] billingref32_Same_l1b
@[go_sem] theorem billingref32_Same_l1_go {M : Mach} {k : List It} {s : St} {Q : Ex → St → Prop} : Run M (.c (.loop billingref32_Same_l1) :: k) .norm s Q ↔ Run M (.c billingref32_Same_l1b :: .lp billingref32_Same_l1 :: k) .norm { s with t := killM [false, false, false, false, true, false, false, false, false, false, false, true, true, true, true, true, true, true, true, true, true, true, true, true, true, true] [false, false, false, false, true, false, false, false, false, false, false, true, true, true, true, true, true, true, true, true, true, true, true, true, true, true] s.t } Q := run_loop_pre
@[go_sem] theorem billingref32_Same_l1_lp {M : Mach} {k : List It} {s : St} {Q : Ex → St → Prop} : Run M (.lp billingref32_Same_l1 :: k) .norm s Q ↔ Run M (.c billingref32_Same_l1b :: .lp billingref32_Same_l1 :: k) .norm { s with t := killM [false, false, false, false, true, false, false, false, false, false, false, true, true, true, true, true, true, true, true, true, true, true, true, true, true, true] [false, false, false, false, true, false, false, false, false, false, false, true, true, true, true, true, true, true, true, true, true, true, true, true, true, true] s.t } Q := run_loop_pre
def a_billingref32_Same : AF := ⟨26, (.seq (.reg [
    ⟨none, .cm 0, none⟩,
    ⟨none, .cm 1, none⟩,
    ⟨some 4, .mv (.c (.bool false)), none⟩])
  (.seq (.seq (.reg [
        ⟨some 6, .cp (.t 0), none⟩,
        ⟨some 7, .len false (.t 6) (some 0), none⟩,
        ⟨some 8, .cp (.t 1), none⟩,
        ⟨some 9, .len false (.t 8) (some 1), none⟩,
        ⟨some 10, .bin .neq (.t 7) (.t 9), none⟩])
      (.cond (.t 10) (.seq (.reg [
            ⟨some 4, .mv (.c (.bool false)), none⟩])
          .ret)
        .skip))
    (.seq (.seq (.reg [
          ⟨some 5, .mv (.c (.int .i64 0)), none⟩])
        (.blk 0 (.pre [false, false, false, false, false, false, true, true, true, true, true] (.loop billingref32_Same_l1))))
      (.pre [true, true, false, false, true, true, true, true, true, true, true, true, true, true, true, true, true, true, true, true, true, true, true, true, true, true] (.seq (.reg [
          ⟨some 4, .mv (.c (.bool true)), none⟩])
        .ret))))), [.tmp 4]⟩

/- billing/counter.Drop -/
def counter_Drop_l1b : AC := (.seq (.reg [
    ⟨some 11, .bin .lss (.t 10) (.t 9), none⟩])
  (.seq (.cond (.t 11) .skip
      (.exit 0))
    (.seq (.blk 1 (.seq (.reg [
            ⟨some 12, .ia (.t 8) (.t 10) 5 none (some 0), none⟩,
            ⟨some 13, .ld (.t 12) (some 5) false none, none⟩,
            ⟨some 7, .newbox [(.int .i64 0), (.int .i64 0), (.int .i64 0), (.int .i64 0), (.int .i64 0)], none⟩,
            ⟨none, .st (.t 7) (.t 13) 5 false (some 7), none⟩])
          (.seq (.reg [
              ⟨some 14, .fa (.t 7) 2 (some 7), none⟩,
              ⟨some 15, .ld (.t 14) none false (some 7), none⟩,
              ⟨some 16, .mv (.t 1), none⟩,
              ⟨some 17, .bin .geq (.t 15) (.t 16), none⟩])
            (.cond (.t 17) (.reg [
                ⟨some 18, .mv (.t 5), none⟩,
                ⟨some 19, .ld (.t 7) (some 5) false (some 7), none⟩,
                ⟨some 20, .bsl 5 1 (.agg [(.int .i64 0), (.int .i64 0), (.int .i64 0), (.int .i64 0), (.int .i64 0)]) [(0, (.t 19))], none⟩,
                ⟨some 21, .app 5 40 (.t 18) (.t 20) none, none⟩,
                ⟨some 5, .mv (.t 21), none⟩])
              .skip))))
      (.reg [
        ⟨some 22, .bin .add (.t 10) (.c (.int .i64 1)), none⟩,
        ⟨some 10, .mv (.t 22), none⟩]))))
def counter_Drop_l1 : AC := .pre [false, false, false, false, false, false, false, true, false, false, false, true, true, true, true, true, true, true, true, true, true, true, true] counter_Drop_l1b
@[go_sem] theorem counter_Drop_l1_go {M : Mach} {k : List It} {s : St} {Q : Ex → St → Prop} : Run M (.c (.loop counter_Drop_l1) :: k) .norm s Q ↔ Run M (.c counter_Drop_l1b :: .lp counter_Drop_l1 :: k) .norm { s with t := killM [false, false, false, false, false, false, false, true, false, false, false, true, true, true, true, true, true, true, true, true, true, true, true] [false, false, false, false, false, false, false, true, false, false, false, true, true, true, true, true, true, true, true, true, true, true, true] s.t } Q := run_loop_pre
@[go_sem] theorem counter_Drop_l1_lp {M : Mach} {k : List It} {s : St} {Q : Ex → St → Prop} : Run M (.lp counter_Drop_l1 :: k) .norm s Q ↔ Run M (.c counter_Drop_l1b :: .lp counter_Drop_l1 :: k) .norm { s with t := killM [false, false, false, false, false, false, false, true, false, false, false, true, true, true, true, true, true, true, true, true, true, true, true] [false, false, false, false, false, false, false, true, false, false, false, true, true, true, true, true, true, true, true, true, true, true, true] s.t } Q := run_loop_pre
def a_counter_Drop : AF := ⟨24, (.seq (.reg [
    ⟨some 4, .mv (.c (.sl true 5 [])), none⟩])
  (.pre [false, false, false, false, true] (.seq (.reg [
      ⟨some 5, .mv (.c (.sl true 5 [])), none⟩])
    (.seq (.seq (.reg [
          ⟨some 8, .cp (.t 0), none⟩,
          ⟨some 9, .len false (.t 8) (some 0), none⟩,
          ⟨some 10, .mv (.c (.int .i64 0)), none⟩])
        (.blk 0 (.loop counter_Drop_l1)))
      (.pre [true, true, false, false, false, false, false, true, true, true, true, true, true, true, true, true, true, true, true, true, true, true, true] (.seq (.reg [
          ⟨some 23, .mv (.t 5), none⟩,
          ⟨some 4, .mv (.t 23), none⟩])
        (.pre [false, false, false, false, false, true] .ret))))))), [.tmp 4]⟩

/- billing/billingref32.Drop -/
def billingref32_Drop_l1b : AC := (.seq (.seq (.reg [
      ⟨some 7, .mv (.t 6), none⟩,
      ⟨some 8, .cp (.t 0), none⟩,
      ⟨some 9, .len false (.t 8) (some 0), none⟩,
      ⟨some 10, .bin .lss (.t 7) (.t 9), none⟩])
    (.cond (.t 10) .skip
      (.exit 0)))
  (.seq (.blk 1 (.seq (.reg [
          ⟨some 13, .cp (.t 0), none⟩,
          ⟨some 14, .mv (.t 6), none⟩,
          ⟨some 15, .ia (.t 13) (.t 14) 5 none (some 0), none⟩,
          ⟨some 16, .fa (.t 15) 2 none, none⟩,
          ⟨some 17, .ld (.t 16) none false none, none⟩,
          ⟨some 18, .mv (.t 1), none⟩,
          ⟨some 19, .bin .geq (.t 17) (.t 18), none⟩])
        (.cond (.t 19) (.reg [
            ⟨some 20, .mv (.t 5), none⟩,
            ⟨some 21, .cp (.t 0), none⟩,
            ⟨some 22, .mv (.t 6), none⟩,
            ⟨some 23, .ia (.t 21) (.t 22) 5 none (some 0), none⟩,
            ⟨some 24, .ld (.t 23) (some 5) false none, none⟩,
            ⟨some 25, .bsl 5 1 (.agg [(.int .i64 0), (.int .i64 0), (.int .i64 0), (.int .i64 0), (.int .i64 0)]) [(0, (.t 24))], none⟩,
            ⟨some 26, .app 5 40 (.t 20) (.t 25) none, none⟩,
            ⟨some 5, .mv (.t 26), none⟩])
          .skip)))
    (.reg [
      ⟨some 11, .mv (.t 6), none⟩,
      ⟨some 12, .bin .add (.t 11) (.c (.int .i64 1)), none⟩,
      ⟨some 6, .mv (.t 12), none⟩])))
def billingref32_Drop_l1 : AC := .pre [false, false, false, false, false, false, false, true, true, true, true, true, true, true, true, true, true, true, true, true, true, true, true, true, true, true, true] billingref32_Drop_l1b
@[go_sem] theorem billingref32_Drop_l1_go {M : Mach} {k : List It} {s : St} {Q : Ex → St → Prop} : Run M (.c (.loop billingref32_Drop_l1) :: k) .norm s Q ↔ Run M (.c billingref32_Drop_l1b :: .lp billingref32_Drop_l1 :: k) .norm { s with t := killM [false, false, false, false, false, false, false, true, true, true, true, true, true, true, true, true, true, true, true, true, true, true, true, true, true, true, true] [false, false, false, false, false, false, false, true, true, true, true, true, true, true, true, true, true, true, true, true, true, true, true, true, true, true, true] s.t } Q := run_loop_pre
@[go_sem] theorem billingref32_Drop_l1_lp {M : Mach} {k : List It} {s : St} {Q : Ex → St → Prop} : Run M (.lp billingref32_Drop_l1 :: k) .norm s Q ↔ Run M (.c billingref32_Drop_l1b :: .lp billingref32_Drop_l1 :: k) .norm { s with t := killM [false, false, false, false, false, false, false, true, true, true, true, true, true, true, true, true, true, true, true, true, true, true, true, true, true, true, true] [false, false, false, false, false, false, false, true, true, true, true, true, true, true, true, true, true, true, true, true, true, true, true, true, true, true, true] s.t } Q := run_loop_pre
def a_billingref32_Drop : AF := ⟨28, (.seq (.reg [
    ⟨some 4, .mv (.c (.sl true 5 [])), none⟩])
  (.pre [false, false, false, false, true] (.seq (.reg [
      ⟨some 5, .mv (.c (.sl true 5 [])), none⟩])
    (.seq (.seq (.reg [
          ⟨some 6, .mv (.c (.int .i64 0)), none⟩])
        (.blk 0 (.loop billingref32_Drop_l1)))
      (.pre [true, true, false, false, false, false, true, true, true, true, true, true, true, true, true, true, true, true, true, true, true, true, true, true, true, true, true] (.seq (.reg [
          ⟨some 27, .mv (.t 5), none⟩,
          ⟨some 4, .mv (.t 27), none⟩])
        (.pre [false, false, false, false, false, true] .ret))))))), [.tmp 4]⟩

/- billing/counter.Add -/
def a_counter_Add : AF := ⟨74, (.seq (.reg [
    ⟨some 2, .boxo (.t 0), none⟩,
    ⟨some 3, .boxo (.t 1), none⟩,
    ⟨some 4, .mv (.c (.sl true 5 [])), none⟩,
    ⟨some 5, .mv (.c (.int .i64 0)), none⟩])
  (.pre [false, false, false, false, true] (.seq (.seq (.reg [
        ⟨some 11, .ld (.t 2) none false none, none⟩,
        ⟨some 12, .call n_counter_Check [((.t 11), false)] false, none⟩,
        ⟨some 13, .un .not (.t 12), none⟩,
        ⟨some 14, .mv (.t 13), none⟩,
        ⟨some 15, .ld (.t 3) (some 5) false none, some (14, false)⟩,
        ⟨some 16, .call n_counter_permitted [((.t 15), false)] false, some (14, false)⟩,
        ⟨some 17, .un .not (.t 16), some (14, false)⟩,
        ⟨some 18, .pick (.t 14) (.c (.bool true)) (.t 17), none⟩])
      (.cond (.t 18) (.seq (.reg [
            ⟨some 4, .mv (.c (.sl true 5 [])), none⟩,
            ⟨some 5, .mv (.c (.int .i64 8)), none⟩])
          .ret)
        .skip))
    (.pre [false, false, false, false, true] (.seq (.seq (.reg [
          ⟨some 19, .ld (.t 3) (some 5) false none, none⟩,
          ⟨some 20, .call n_counter_ranged [((.t 19), false)] false, none⟩,
          ⟨some 21, .un .not (.t 20), none⟩])
        (.cond (.t 21) (.seq (.reg [
              ⟨some 4, .mv (.c (.sl true 5 [])), none⟩,
              ⟨some 5, .mv (.c (.int .i64 6)), none⟩])
            .ret)
          .skip))
      (.pre [false, false, false, false, true] (.seq (.reg [
          ⟨some 22, .mkf n_counter_Add_1 [(.t 2), (.t 3)], none⟩,
          ⟨some 6, .mv (.t 22), none⟩])
        (.seq (.reg [
            ⟨some 24, .mv (.t 6), none⟩,
            ⟨some 25, .callv (.t 24) [], none⟩,
            ⟨some 23, .mv (.t 25), none⟩,
            ⟨some 26, .ext 23 0, none⟩,
            ⟨some 27, .ext 23 1, none⟩,
            ⟨some 7, .mv (.t 26), none⟩,
            ⟨some 8, .mv (.t 27), none⟩])
          (.seq (.reg [
              ⟨some 28, .ld (.t 3) (some 5) false none, none⟩,
              ⟨some 9, .newbox [(.int .i64 0), (.int .i64 0), (.int .i64 0), (.int .i64 0), (.int .i64 0)], none⟩,
              ⟨none, .st (.t 9) (.t 28) 5 false (some 9), none⟩])
            (.seq (.seq (.reg [
                  ⟨some 29, .mv (.t 8), none⟩,
                  ⟨some 30, .mv (.t 7), none⟩,
                  ⟨some 31, .bin .gtr (.t 29) (.t 30), none⟩])
                (.cond (.t 31) (.seq (.dreg [
                      ⟨some 32, .fa (.t 9) 3 (some 9), none⟩,
                      ⟨some 33, .ld (.t 32) none false (some 9), none⟩,
                      ⟨some 34, .ld (.t 2) none false none, none⟩,
                      ⟨some 35, .cp (.t 7), none⟩,
                      ⟨some 36, .ia (.t 34) (.t 35) 5 none none, none⟩,
                      ⟨some 37, .fa (.t 36) 3 none, none⟩,
                      ⟨some 38, .ld (.t 37) none false none, none⟩,
                      ⟨some 39, .bin .add (.t 33) (.t 38), none⟩,
                      ⟨some 40, .fa (.t 9) 3 (some 9), none⟩,
                      ⟨none, .st (.t 40) (.t 39) 1 false (some 9), none⟩])
                    (.dreg [
                      ⟨some 41, .fa (.t 9) 4 (some 9), none⟩,
                      ⟨some 42, .ld (.t 41) none false (some 9), none⟩,
                      ⟨some 43, .ld (.t 2) none false none, none⟩,
                      ⟨some 44, .cp (.t 7), none⟩,
                      ⟨some 45, .ia (.t 43) (.t 44) 5 none none, none⟩,
                      ⟨some 46, .fa (.t 45) 4 none, none⟩,
                      ⟨some 47, .ld (.t 46) none false none, none⟩,
                      ⟨some 48, .bin .add (.t 42) (.t 47), none⟩,
                      ⟨some 49, .fa (.t 9) 4 (some 9), none⟩,
                      ⟨none, .st (.t 49) (.t 48) 1 false (some 9), none⟩]))
                  .skip))
              (.seq (.seq (.reg [
                    ⟨some 50, .ld (.t 9) (some 5) false (some 9), none⟩,
                    ⟨some 51, .call n_counter_ranged [((.t 50), false)] false, none⟩,
                    ⟨some 52, .un .not (.t 51), none⟩])
                  (.cond (.t 52) (.seq (.reg [
                        ⟨some 4, .mv (.c (.sl true 5 [])), none⟩,
                        ⟨some 5, .mv (.c (.int .i64 6)), none⟩])
                      .ret)
                    .skip))
                (.pre [false, false, false, false, true] (.seq (.reg [
                    ⟨some 53, .ld (.t 2) none false none, none⟩,
                    ⟨some 54, .mv (.t 7), none⟩,
                    ⟨some 55, .slc (some 5) (.t 53) none (some (.t 54)) none, none⟩,
                    ⟨some 56, .app 5 40 (.c (.sl true 5 [])) (.t 55) none, none⟩,
                    ⟨some 10, .mv (.t 56), none⟩])
                  (.seq (.seq (.reg [
                        ⟨some 57, .fa (.t 9) 3 (some 9), none⟩,
                        ⟨some 58, .ld (.t 57) none false (some 9), none⟩,
                        ⟨some 59, .bin .neq (.t 58) (.c (.int .i64 0)), none⟩,
                        ⟨some 60, .mv (.t 59), none⟩,
                        ⟨some 61, .fa (.t 9) 4 (some 9), some (60, false)⟩,
                        ⟨some 62, .ld (.t 61) none false (some 9), some (60, false)⟩,
                        ⟨some 63, .bin .neq (.t 62) (.c (.int .i64 0)), some (60, false)⟩,
                        ⟨some 64, .pick (.t 60) (.c (.bool true)) (.t 63), none⟩])
                      (.cond (.t 64) (.reg [
                          ⟨some 65, .mv (.t 10), none⟩,
                          ⟨some 66, .ld (.t 9) (some 5) false (some 9), none⟩,
                          ⟨some 67, .bsl 5 1 (.agg [(.int .i64 0), (.int .i64 0), (.int .i64 0), (.int .i64 0), (.int .i64 0)]) [(0, (.t 66))], none⟩,
                          ⟨some 68, .app 5 40 (.t 65) (.t 67) none, none⟩,
                          ⟨some 10, .mv (.t 68), none⟩])
                        .skip))
                    (.seq (.reg [
                        ⟨some 69, .mv (.t 10), none⟩,
                        ⟨some 70, .ld (.t 2) none false none, none⟩,
                        ⟨some 71, .mv (.t 8), none⟩,
                        ⟨some 72, .slc (some 5) (.t 70) (some (.t 71)) none none, none⟩,
                        ⟨some 73, .app 5 40 (.t 69) (.t 72) none, none⟩,
                        ⟨some 4, .mv (.t 73), none⟩,
                        ⟨some 5, .mv (.c (.int .i64 0)), none⟩])
                      (.pre [false, false, false, false, false, false, false, false, false, false, true] .ret)))))))))))))))), [.tmp 4, .tmp 5]⟩

/- billing/billingref32.Add -/
def billingref32_Add_l1b : AC := (.seq (.seq (.reg [
      ⟨some 44, .mv (.t 8), none⟩,
      ⟨some 45, .cp (.t 0), none⟩,
      ⟨some 46, .len false (.t 45) (some 0), none⟩,
      ⟨some 47, .bin .lss (.t 44) (.t 46), none⟩])
    (.cond (.t 47) .skip
      (.exit 0)))
  (.seq (.blk 1 (.seq (.dreg [
          ⟨some 50, .cp (.t 0), none⟩,
          ⟨some 51, .cp (.t 8), none⟩,
          ⟨some 52, .ia (.t 50) (.t 51) 5 none (some 0), none⟩,
          ⟨some 53, .ld (.t 52) (some 5) false none, none⟩,
          ⟨some 54, .ld (.t 6) (some 5) false (some 6), none⟩,
          ⟨some 55, .call n_billingref32_order [((.t 53), false), ((.t 54), false)] false, none⟩,
          ⟨some 56, .bin .lss (.t 55) (.c (.int .i64 0)), none⟩])
        (.cond (.t 56) (.reg [
            ⟨some 57, .mv (.t 7), none⟩,
            ⟨some 58, .cp (.t 0), none⟩,
            ⟨some 59, .mv (.t 8), none⟩,
            ⟨some 60, .ia (.t 58) (.t 59) 5 none (some 0), none⟩,
            ⟨some 61, .ld (.t 60) (some 5) false none, none⟩,
            ⟨some 62, .bsl 5 1 (.agg [(.int .i64 0), (.int .i64 0), (.int .i64 0), (.int .i64 0), (.int .i64 0)]) [(0, (.t 61))], none⟩,
            ⟨some 63, .app 5 40 (.t 57) (.t 62) none, none⟩,
            ⟨some 7, .mv (.t 63), none⟩])
          .skip)))
    (.reg [
      ⟨some 48, .mv (.t 8), none⟩,
      ⟨some 49, .bin .add (.t 48) (.c (.int .i64 1)), none⟩,
      ⟨some 8, .mv (.t 49), none⟩])))
def billingref32_Add_l1 : AC := .pre [false, false, false, false, false, false, false, false, false, false, false, false, false, false, false, false, false, false, false, false, false, false, false, false, false, false, false, false, false, false, false, false, false, false, false, false, false, false, false, false, false, false, false, false, true, true, true, true, true, true, true, true, true, true, true, true, true, true, true, true, true, true, true, true] billingref32_Add_l1b
@[go_sem] theorem billingref32_Add_l1_go {M : Mach} {k : List It} {s : St} {Q : Ex → St → Prop} : Run M (.c (.loop billingref32_Add_l1) :: k) .norm s Q ↔ Run M (.c billingref32_Add_l1b :: .lp billingref32_Add_l1 :: k) .norm { s with t := killM [false, false, false, false, false, false, false, false, false, false, false, false, false, false, false, false, false, false, false, false, false, false, false, false, false, false, false, false, false, false, false, false, false, false, false, false, false, false, false, false, false, false, false, false, true, true, true, true, true, true, true, true, true, true, true, true, true, true, true, true, true, true, true, true] [false, false, false, false, false, false, false, false, false, false, false, false, false, false, false, false, false, false, false, false, false, false, false, false, false, false, false, false, false, false, false, false, false, false, false, false, false, false, false, false, false, false, false, false, true, true, true, true, true, true, true, true, true, true, true, true, true, true, true, true, true, true, true, true] s.t } Q := run_loop_pre
@[go_sem] theorem billingref32_Add_l1_lp {M : Mach} {k : List It} {s : St} {Q : Ex → St → Prop} : Run M (.lp billingref32_Add_l1 :: k) .norm s Q ↔ Run M (.c billingref32_Add_l1b :: .lp billingref32_Add_l1 :: k) .norm { s with t := killM [false, false, false, false, false, false, false, false, false, false, false, false, false, false, false, false, false, false, false, false, false, false, false, false, false, false, false, false, false, false, false, false, false, false, false, false, false, false, false, false, false, false, false, false, true, true, true, true, true, true, true, true, true, true, true, true, true, true, true, true, true, true, true, true] [false, false, false, false, false, false, false, false, false, false, false, false, false, false, false, false, false, false, false, false, false, false, false, false, false, false, false, false, false, false, false, false, false, false, false, false, false, false, false, false, false, false, false, false, true, true, true, true, true, true, true, true, true, true, true, true, true, true, true, true, true, true, true, true] s.t } Q := run_loop_pre
def billingref32_Add_l2b : AC := (.seq (.seq (.reg [
      ⟨some 76, .mv (.t 9), none⟩,
      ⟨some 77, .cp (.t 0), none⟩,
      ⟨some 78, .len false (.t 77) (some 0), none⟩,
      ⟨some 79, .bin .lss (.t 76) (.t 78), none⟩])
    (.cond (.t 79) .skip
      (.exit 2)))
  (.seq (.blk 3 (.seq (.dreg [
          ⟨some 82, .cp (.t 0), none⟩,
          ⟨some 83, .cp (.t 9), none⟩,
          ⟨some 84, .ia (.t 82) (.t 83) 5 none (some 0), none⟩,
          ⟨some 85, .ld (.t 84) (some 5) false none, none⟩,
          ⟨some 86, .ld (.t 6) (some 5) false (some 6), none⟩,
          ⟨some 87, .call n_billingref32_order [((.t 85), false), ((.t 86), false)] false, none⟩,
          ⟨some 88, .bin .gtr (.t 87) (.c (.int .i64 0)), none⟩])
        (.cond (.t 88) (.reg [
            ⟨some 89, .mv (.t 7), none⟩,
            ⟨some 90, .cp (.t 0), none⟩,
            ⟨some 91, .mv (.t 9), none⟩,
            ⟨some 92, .ia (.t 90) (.t 91) 5 none (some 0), none⟩,
            ⟨some 93, .ld (.t 92) (some 5) false none, none⟩,
            ⟨some 94, .bsl 5 1 (.agg [(.int .i64 0), (.int .i64 0), (.int .i64 0), (.int .i64 0), (.int .i64 0)]) [(0, (.t 93))], none⟩,
            ⟨some 95, .app 5 40 (.t 89) (.t 94) none, none⟩,
            ⟨some 7, .mv (.t 95), none⟩])
          .skip)))
    (.reg [
      ⟨some 80, .mv (.t 9), none⟩,
      ⟨some 81, .bin .add (.t 80) (.c (.int .i64 1)), none⟩,
      ⟨some 9, .mv (.t 81), none⟩])))
def billingref32_Add_l2 : AC := .pre [false, false, false, false, false, false, false, false, false, false, false, false, false, false, false, false, false, false, false, false, false, false, false, false, false, false, false, false, false, false, false, false, false, false, false, false, false, false, false, false, false, false, false, false, false, false, false, false, false, false, false, false, false, false, false, false, false, false, false, false, false, false, false, false, false, false, false, false, false, false, false, false, false, false, false, false, true, true, true, true, true, true, true, true, true, true, true, true, true, true, true, true, true, true, true, true] billingref32_Add_l2b
@[go_sem] theorem billingref32_Add_l2_go {M : Mach} {k : List It} {s : St} {Q : Ex → St → Prop} : Run M (.c (.loop billingref32_Add_l2) :: k) .norm s Q ↔ Run M (.c billingref32_Add_l2b :: .lp billingref32_Add_l2 :: k) .norm { s with t := killM [false, false, false, false, false, false, false, false, false, false, false, false, false, false, false, false, false, false, false, false, false, false, false, false, false, false, false, false, false, false, false, false, false, false, false, false, false, false, false, false, false, false, false, false, false, false, false, false, false, false, false, false, false, false, false, false, false, false, false, false, false, false, false, false, false, false, false, false, false, false, false, false, false, false, false, false, true, true, true, true, true, true, true, true, true, true, true, true, true, true, true, true, true, true, true, true] [false, false, false, false, false, false, false, false, false, false, false, false, false, false, false, false, false, false, false, false, false, false, false, false, false, false, false, false, false, false, false, false, false, false, false, false, false, false, false, false, false, false, false, false, false, false, false, false, false, false, false, false, false, false, false, false, false, false, false, false, false, false, false, false, false, false, false, false, false, false, false, false, false, false, false, false, true, true, true, true, true, true, true, true, true, true, true, true, true, true, true, true, true, true, true, true] s.t } Q := run_loop_pre
@[go_sem] theorem billingref32_Add_l2_lp {M : Mach} {k : List It} {s : St} {Q : Ex → St → Prop} : Run M (.lp billingref32_Add_l2 :: k) .norm s Q ↔ Run M (.c billingref32_Add_l2b :: .lp billingref32_Add_l2 :: k) .norm { s with t := killM [false, false, false, false, false, false, false, false, false, false, false, false, false, false, false, false, false, false, false, false, false, false, false, false, false, false, false, false, false, false, false, false, false, false, false, false, false, false, false, false, false, false, false, false, false, false, false, false, false, false, false, false, false, false, false, false, false, false, false, false, false, false, false, false, false, false, false, false, false, false, false, false, false, false, false, false, true, true, true, true, true, true, true, true, true, true, true, true, true, true, true, true, true, true, true, true] [false, false, false, false, false, false, false, false, false, false, false, false, false, false, false, false, false, false, false, false, false, false, false, false, false, false, false, false, false, false, false, false, false, false, false, false, false, false, false, false, false, false, false, false, false, false, false, false, false, false, false, false, false, false, false, false, false, false, false, false, false, false, false, false, false, false, false, false, false, false, false, false, false, false, false, false, true, true, true, true, true, true, true, true, true, true, true, true, true, true, true, true, true, true, true, true] s.t } Q := run_loop_pre
def a_billingref32_Add : AF := ⟨97, (.seq (.reg [
    ⟨some 3, .boxr (.t 1), none⟩,
    ⟨some 4, .mv (.c (.sl true 5 [])), none⟩,
    ⟨some 5, .mv (.c (.int .i64 0)), none⟩])
  (.pre [false, false, false, false, true] (.seq (.seq (.reg [
        ⟨some 10, .mv (.t 0), none⟩,
        ⟨some 11, .call n_billingref32_Check [((.t 10), false)] false, none⟩,
        ⟨some 12, .un .not (.t 11), none⟩,
        ⟨some 13, .mv (.t 12), none⟩,
        ⟨some 14, .ld (.t 3) (some 5) false none, some (13, false)⟩,
        ⟨some 15, .call n_billingref32_keyed [((.t 14), false)] false, some (13, false)⟩,
        ⟨some 16, .un .not (.t 15), some (13, false)⟩,
        ⟨some 17, .pick (.t 13) (.c (.bool true)) (.t 16), none⟩])
      (.cond (.t 17) (.seq (.reg [
            ⟨some 4, .mv (.c (.sl true 5 [])), none⟩,
            ⟨some 5, .mv (.c (.int .i64 8)), none⟩])
          .ret)
        .skip))
    (.pre [false, false, false, false, true] (.seq (.seq (.reg [
          ⟨some 18, .ld (.t 3) (some 5) false none, none⟩,
          ⟨some 19, .call n_billingref32_within [((.t 18), false)] false, none⟩,
          ⟨some 20, .un .not (.t 19), none⟩])
        (.cond (.t 20) (.seq (.reg [
              ⟨some 4, .mv (.c (.sl true 5 [])), none⟩,
              ⟨some 5, .mv (.c (.int .i64 6)), none⟩])
            .ret)
          .skip))
      (.pre [false, false, false, false, true] (.seq (.reg [
          ⟨some 21, .mv (.t 0), none⟩,
          ⟨some 22, .fa (.t 3) 0 none, none⟩,
          ⟨some 23, .ld (.t 22) none false none, none⟩,
          ⟨some 24, .fa (.t 3) 1 none, none⟩,
          ⟨some 25, .ld (.t 24) none false none, none⟩,
          ⟨some 26, .fa (.t 3) 2 none, none⟩,
          ⟨some 27, .ld (.t 26) none false none, none⟩,
          ⟨some 28, .call n_billingref32_Get [((.t 21), false), ((.t 23), false), ((.t 25), false), ((.t 27), false)] false, none⟩,
          ⟨some 6, .newbox [(.int .i64 0), (.int .i64 0), (.int .i64 0), (.int .i64 0), (.int .i64 0)], none⟩,
          ⟨none, .st (.t 6) (.t 28) 5 false (some 6), none⟩])
        (.seq (.reg [
            ⟨some 29, .fa (.t 6) 3 (some 6), none⟩,
            ⟨some 30, .ld (.t 29) none false (some 6), none⟩,
            ⟨some 31, .fa (.t 3) 3 none, none⟩,
            ⟨some 32, .ld (.t 31) none false none, none⟩,
            ⟨some 33, .bin .add (.t 30) (.t 32), none⟩,
            ⟨some 34, .fa (.t 6) 3 (some 6), none⟩,
            ⟨none, .st (.t 34) (.t 33) 1 false (some 6), none⟩])
          (.seq (.reg [
              ⟨some 35, .fa (.t 6) 4 (some 6), none⟩,
              ⟨some 36, .ld (.t 35) none false (some 6), none⟩,
              ⟨some 37, .fa (.t 3) 4 none, none⟩,
              ⟨some 38, .ld (.t 37) none false none, none⟩,
              ⟨some 39, .bin .add (.t 36) (.t 38), none⟩,
              ⟨some 40, .fa (.t 6) 4 (some 6), none⟩,
              ⟨none, .st (.t 40) (.t 39) 1 false (some 6), none⟩])
            (.seq (.seq (.reg [
                  ⟨some 41, .ld (.t 6) (some 5) false (some 6), none⟩,
                  ⟨some 42, .call n_billingref32_within [((.t 41), false)] false, none⟩,
                  ⟨some 43, .un .not (.t 42), none⟩])
                (.cond (.t 43) (.seq (.reg [
                      ⟨some 4, .mv (.c (.sl true 5 [])), none⟩,
                      ⟨some 5, .mv (.c (.int .i64 6)), none⟩])
                    .ret)
                  .skip))
              (.pre [false, false, false, false, true] (.seq (.reg [
                  ⟨some 7, .mv (.c (.sl true 5 [])), none⟩])
                (.seq (.seq (.reg [
                      ⟨some 8, .mv (.c (.int .i64 0)), none⟩])
                    (.blk 0 (.pre [false, true, false, true, false, true, false, false, false, false, true, true, true, true, true, true, true, true, true, true, true, true, true, true, true, true, true, true, true, true, true, true, true, true, true, true, true, true, true, true, true, true, true, true] (.loop billingref32_Add_l1))))
                  (.pre [false, true, false, true, false, true, false, false, true, false, true, true, true, true, true, true, true, true, true, true, true, true, true, true, true, true, true, true, true, true, true, true, true, true, true, true, true, true, true, true, true, true, true, true, true, true, true, true, true, true, true, true, true, true, true, true, true, true, true, true, true, true, true, true] (.seq (.seq (.reg [
                        ⟨some 64, .fa (.t 6) 3 (some 6), none⟩,
                        ⟨some 65, .ld (.t 64) none false (some 6), none⟩,
                        ⟨some 66, .bin .neq (.t 65) (.c (.int .i64 0)), none⟩,
                        ⟨some 67, .mv (.t 66), none⟩,
                        ⟨some 68, .fa (.t 6) 4 (some 6), some (67, false)⟩,
                        ⟨some 69, .ld (.t 68) none false (some 6), some (67, false)⟩,
                        ⟨some 70, .bin .neq (.t 69) (.c (.int .i64 0)), some (67, false)⟩,
                        ⟨some 71, .pick (.t 67) (.c (.bool true)) (.t 70), none⟩])
                      (.cond (.t 71) (.reg [
                          ⟨some 72, .mv (.t 7), none⟩,
                          ⟨some 73, .ld (.t 6) (some 5) false (some 6), none⟩,
                          ⟨some 74, .bsl 5 1 (.agg [(.int .i64 0), (.int .i64 0), (.int .i64 0), (.int .i64 0), (.int .i64 0)]) [(0, (.t 73))], none⟩,
                          ⟨some 75, .app 5 40 (.t 72) (.t 74) none, none⟩,
                          ⟨some 7, .mv (.t 75), none⟩])
                        .skip))
                    (.seq (.seq (.reg [
                          ⟨some 9, .mv (.c (.int .i64 0)), none⟩])
                        (.blk 2 (.pre [false, false, false, false, false, false, false, false, false, false, false, false, false, false, false, false, false, false, false, false, false, false, false, false, false, false, false, false, false, false, false, false, false, false, false, false, false, false, false, false, false, false, false, false, false, false, false, false, false, false, false, false, false, false, false, false, false, false, false, false, false, false, false, false, true, true, true, true, true, true, true, true, true, true, true, true] (.loop billingref32_Add_l2))))
                      (.pre [true, false, false, false, false, false, true, false, false, true, false, false, false, false, false, false, false, false, false, false, false, false, false, false, false, false, false, false, false, false, false, false, false, false, false, false, false, false, false, false, false, false, false, false, false, false, false, false, false, false, false, false, false, false, false, false, false, false, false, false, false, false, false, false, true, true, true, true, true, true, true, true, true, true, true, true, true, true, true, true, true, true, true, true, true, true, true, true, true, true, true, true, true, true, true, true] (.seq (.reg [
                          ⟨some 96, .mv (.t 7), none⟩,
                          ⟨some 4, .mv (.t 96), none⟩,
                          ⟨some 5, .mv (.c (.int .i64 0)), none⟩])
                        (.pre [false, false, false, false, false, false, false, true] .ret))))))))))))))))))), [.tmp 4, .tmp 5]⟩

/- billing/counter.permitted -/
def a_counter_permitted : AF := ⟨26, (.seq (.reg [
    ⟨some 1, .boxr (.t 0), none⟩,
    ⟨some 2, .mv (.c (.bool false)), none⟩])
  (.seq (.reg [
      ⟨some 3, .fa (.t 1) 0 none, none⟩,
      ⟨some 4, .ld (.t 3) none false none, none⟩,
      ⟨some 5, .bin .geq (.t 4) (.c (.int .i64 1)), none⟩,
      ⟨some 6, .mv (.t 5), none⟩,
      ⟨some 7, .fa (.t 1) 0 none, some (6, true)⟩,
      ⟨some 8, .ld (.t 7) none false none, some (6, true)⟩,
      ⟨some 9, .bin .leq (.t 8) (.c (.int .i64 9999)), some (6, true)⟩,
      ⟨some 10, .pick (.t 6) (.t 9) (.c (.bool false)), none⟩,
      ⟨some 11, .mv (.t 10), none⟩,
      ⟨some 12, .fa (.t 1) 1 none, some (11, true)⟩,
      ⟨some 13, .ld (.t 12) none false none, some (11, true)⟩,
      ⟨some 14, .call n_counter_known [((.t 13), false)] false, some (11, true)⟩,
      ⟨some 15, .pick (.t 11) (.t 14) (.c (.bool false)), none⟩,
      ⟨some 16, .mv (.t 15), none⟩,
      ⟨some 17, .fa (.t 1) 2 none, some (16, true)⟩,
      ⟨some 18, .ld (.t 17) none false none, some (16, true)⟩,
      ⟨some 19, .bin .geq (.t 18) (.c (.int .i64 0)), some (16, true)⟩,
      ⟨some 20, .pick (.t 16) (.t 19) (.c (.bool false)), none⟩,
      ⟨some 21, .mv (.t 20), none⟩,
      ⟨some 22, .fa (.t 1) 2 none, some (21, true)⟩,
      ⟨some 23, .ld (.t 22) none false none, some (21, true)⟩,
      ⟨some 24, .bin .lss (.t 23) (.c (.int .i64 12622780800)), some (21, true)⟩,
      ⟨some 25, .pick (.t 21) (.t 24) (.c (.bool false)), none⟩,
      ⟨some 2, .mv (.t 25), none⟩])
    .ret)), [.tmp 2]⟩

/- billing/counter.ranged -/
def a_counter_ranged : AF := ⟨21, (.seq (.reg [
    ⟨some 1, .boxr (.t 0), none⟩,
    ⟨some 2, .mv (.c (.bool false)), none⟩])
  (.seq (.reg [
      ⟨some 3, .fa (.t 1) 3 none, none⟩,
      ⟨some 4, .ld (.t 3) none false none, none⟩,
      ⟨some 5, .bin .geq (.t 4) (.c (.int .i64 0)), none⟩,
      ⟨some 6, .mv (.t 5), none⟩,
      ⟨some 7, .fa (.t 1) 3 none, some (6, true)⟩,
      ⟨some 8, .ld (.t 7) none false none, some (6, true)⟩,
      ⟨some 9, .bin .leq (.t 8) (.c (.int .i64 1125899906842624)), some (6, true)⟩,
      ⟨some 10, .pick (.t 6) (.t 9) (.c (.bool false)), none⟩,
      ⟨some 11, .mv (.t 10), none⟩,
      ⟨some 12, .fa (.t 1) 4 none, some (11, true)⟩,
      ⟨some 13, .ld (.t 12) none false none, some (11, true)⟩,
      ⟨some 14, .bin .geq (.t 13) (.c (.int .i64 0)), some (11, true)⟩,
      ⟨some 15, .pick (.t 11) (.t 14) (.c (.bool false)), none⟩,
      ⟨some 16, .mv (.t 15), none⟩,
      ⟨some 17, .fa (.t 1) 4 none, some (16, true)⟩,
      ⟨some 18, .ld (.t 17) none false none, some (16, true)⟩,
      ⟨some 19, .bin .leq (.t 18) (.c (.int .i64 1125899906842624)), some (16, true)⟩,
      ⟨some 20, .pick (.t 16) (.t 19) (.c (.bool false)), none⟩,
      ⟨some 2, .mv (.t 20), none⟩])
    .ret)), [.tmp 2]⟩

/- billing/counter.compare -/
def counter_compare_l1b : AC := (.seq (.reg [
    ⟨some 24, .bin .lss (.t 23) (.c (.int .i64 3)), none⟩])
  (.seq (.cond (.t 24) .skip
      (.exit 0))
    (.seq (.blk 1 (.seq (.reg [
            ⟨some 25, .idx (.t 22) (.t 23) (some 3) 2 true, none⟩,
            ⟨some 6, .newbox [(.int .i64 0), (.int .i64 0)], none⟩,
            ⟨none, .st (.t 6) (.t 25) 2 false (some 6), none⟩])
          (.blk 2 (.seq (.reg [
                ⟨some 27, .ia (.t 6) (.c (.int .i64 0)) 1 (some 2) (some 6), none⟩,
                ⟨some 28, .ld (.t 27) none false (some 6), none⟩,
                ⟨some 29, .ia (.t 6) (.c (.int .i64 1)) 1 (some 2) (some 6), none⟩,
                ⟨some 30, .ld (.t 29) none false (some 6), none⟩,
                ⟨some 31, .bin .lss (.t 28) (.t 30), none⟩,
                ⟨some 26, .mv (.t 31), none⟩])
              (.cond (.t 26) (.seq (.reg [
                    ⟨some 4, .mv (.c (.int .i64 (-1))), none⟩])
                  .ret)
                (.seq (.reg [
                    ⟨some 33, .ia (.t 6) (.c (.int .i64 0)) 1 (some 2) (some 6), none⟩,
                    ⟨some 34, .ld (.t 33) none false (some 6), none⟩,
                    ⟨some 35, .ia (.t 6) (.c (.int .i64 1)) 1 (some 2) (some 6), none⟩,
                    ⟨some 36, .ld (.t 35) none false (some 6), none⟩,
                    ⟨some 37, .bin .gtr (.t 34) (.t 36), none⟩,
                    ⟨some 32, .mv (.t 37), none⟩])
                  (.cond (.t 32) (.seq (.reg [
                        ⟨some 4, .mv (.c (.int .i64 1)), none⟩])
                      .ret)
                    .skip)))))))
      (.reg [
        ⟨some 38, .bin .add (.t 23) (.c (.int .i64 1)), none⟩,
        ⟨some 23, .mv (.t 38), none⟩]))))
def counter_compare_l1 : AC := .pre [false, false, false, false, true, false, true, false, false, false, false, false, false, false, false, false, false, false, false, false, false, false, false, false, true, true, true, true, true, true, true, true, true, true, true, true, true, true, true] counter_compare_l1b
@[go_sem] theorem counter_compare_l1_go {M : Mach} {k : List It} {s : St} {Q : Ex → St → Prop} : Run M (.c (.loop counter_compare_l1) :: k) .norm s Q ↔ Run M (.c counter_compare_l1b :: .lp counter_compare_l1 :: k) .norm { s with t := killM [false, false, false, false, true, false, true, false, false, false, false, false, false, false, false, false, false, false, false, false, false, false, false, false, true, true, true, true, true, true, true, true, true, true, true, true, true, true, true] [false, false, false, false, true, false, true, false, false, false, false, false, false, false, false, false, false, false, false, false, false, false, false, false, true, true, true, true, true, true, true, true, true, true, true, true, true, true, true] s.t } Q := run_loop_pre
@[go_sem] theorem counter_compare_l1_lp {M : Mach} {k : List It} {s : St} {Q : Ex → St → Prop} : Run M (.lp counter_compare_l1 :: k) .norm s Q ↔ Run M (.c counter_compare_l1b :: .lp counter_compare_l1 :: k) .norm { s with t := killM [false, false, false, false, true, false, true, false, false, false, false, false, false, false, false, false, false, false, false, false, false, false, false, false, true, true, true, true, true, true, true, true, true, true, true, true, true, true, true] [false, false, false, false, true, false, true, false, false, false, false, false, false, false, false, false, false, false, false, false, false, false, false, false, true, true, true, true, true, true, true, true, true, true, true, true, true, true, true] s.t } Q := run_loop_pre
def a_counter_compare : AF := ⟨39, (.seq (.reg [
    ⟨some 2, .boxr (.t 0), none⟩,
    ⟨some 3, .boxr (.t 1), none⟩,
    ⟨some 4, .mv (.c (.int .i64 0)), none⟩])
  (.seq (.seq (.reg [
        ⟨some 7, .fa (.t 2) 0 none, none⟩,
        ⟨some 8, .ld (.t 7) none false none, none⟩,
        ⟨some 9, .fa (.t 3) 0 none, none⟩,
        ⟨some 10, .ld (.t 9) none false none, none⟩,
        ⟨some 11, .build [(.int .i64 0), (.int .i64 0)] [(0, 1, (.t 8)), (1, 1, (.t 10))], none⟩,
        ⟨some 12, .fa (.t 2) 1 none, none⟩,
        ⟨some 13, .ld (.t 12) none false none, none⟩,
        ⟨some 14, .fa (.t 3) 1 none, none⟩,
        ⟨some 15, .ld (.t 14) none false none, none⟩,
        ⟨some 16, .build [(.int .i64 0), (.int .i64 0)] [(0, 1, (.t 13)), (1, 1, (.t 15))], none⟩,
        ⟨some 17, .fa (.t 2) 2 none, none⟩,
        ⟨some 18, .ld (.t 17) none false none, none⟩,
        ⟨some 19, .fa (.t 3) 2 none, none⟩,
        ⟨some 20, .ld (.t 19) none false none, none⟩,
        ⟨some 21, .build [(.int .i64 0), (.int .i64 0)] [(0, 1, (.t 18)), (1, 1, (.t 20))], none⟩,
        ⟨some 22, .build [(.int .i64 0), (.int .i64 0), (.int .i64 0), (.int .i64 0), (.int .i64 0), (.int .i64 0)] [(0, 2, (.t 11)), (2, 2, (.t 16)), (4, 2, (.t 21))], none⟩,
        ⟨some 23, .mv (.c (.int .i64 0)), none⟩])
      (.blk 0 (.pre [true, true, true, true, false, false, false, true, true, true, true, true, true, true, true, true, true, true, true, true, true, true] (.loop counter_compare_l1))))
    (.pre [true, true, true, true, true, false, true, true, true, true, true, true, true, true, true, true, true, true, true, true, true, true, true, true, true, true, true, true, true, true, true, true, true, true, true, true, true, true, true] (.seq (.reg [
        ⟨some 4, .mv (.c (.int .i64 0)), none⟩])
      .ret)))), [.tmp 4]⟩

/- billing/billingref32.keyed -/
def a_billingref32_keyed : AF := ⟨31, (.seq (.reg [
    ⟨some 1, .boxr (.t 0), none⟩,
    ⟨some 2, .mv (.c (.bool false)), none⟩])
  (.seq (.reg [
      ⟨some 3, .fa (.t 1) 0 none, none⟩,
      ⟨some 4, .ld (.t 3) none false none, none⟩,
      ⟨some 5, .bin .geq (.t 4) (.c (.int .i64 1)), none⟩,
      ⟨some 6, .mv (.t 5), none⟩,
      ⟨some 7, .fa (.t 1) 0 none, some (6, true)⟩,
      ⟨some 8, .ld (.t 7) none false none, some (6, true)⟩,
      ⟨some 9, .bin .leq (.t 8) (.c (.int .i64 9999)), some (6, true)⟩,
      ⟨some 10, .pick (.t 6) (.t 9) (.c (.bool false)), none⟩,
      ⟨some 11, .mv (.t 10), none⟩,
      ⟨some 12, .fa (.t 1) 1 none, some (11, true)⟩,
      ⟨some 13, .ld (.t 12) none false none, some (11, true)⟩,
      ⟨some 14, .bin .geq (.t 13) (.c (.int .i64 1)), some (11, true)⟩,
      ⟨some 15, .pick (.t 11) (.t 14) (.c (.bool false)), none⟩,
      ⟨some 16, .mv (.t 15), none⟩,
      ⟨some 17, .fa (.t 1) 1 none, some (16, true)⟩,
      ⟨some 18, .ld (.t 17) none false none, some (16, true)⟩,
      ⟨some 19, .bin .lss (.t 18) (.c (.int .i64 5)), some (16, true)⟩,
      ⟨some 20, .pick (.t 16) (.t 19) (.c (.bool false)), none⟩,
      ⟨some 21, .mv (.t 20), none⟩,
      ⟨some 22, .fa (.t 1) 2 none, some (21, true)⟩,
      ⟨some 23, .ld (.t 22) none false none, some (21, true)⟩,
      ⟨some 24, .bin .geq (.t 23) (.c (.int .i64 0)), some (21, true)⟩,
      ⟨some 25, .pick (.t 21) (.t 24) (.c (.bool false)), none⟩,
      ⟨some 26, .mv (.t 25), none⟩,
      ⟨some 27, .fa (.t 1) 2 none, some (26, true)⟩,
      ⟨some 28, .ld (.t 27) none false none, some (26, true)⟩,
      ⟨some 29, .bin .lss (.t 28) (.c (.int .i64 12622780800)), some (26, true)⟩,
      ⟨some 30, .pick (.t 26) (.t 29) (.c (.bool false)), none⟩,
      ⟨some 2, .mv (.t 30), none⟩])
    .ret)), [.tmp 2]⟩

/- billing/billingref32.within -/
def a_billingref32_within : AF := ⟨21, (.seq (.reg [
    ⟨some 1, .boxr (.t 0), none⟩,
    ⟨some 2, .mv (.c (.bool false)), none⟩])
  (.seq (.reg [
      ⟨some 3, .fa (.t 1) 3 none, none⟩,
      ⟨some 4, .ld (.t 3) none false none, none⟩,
      ⟨some 5, .bin .geq (.t 4) (.c (.int .i64 0)), none⟩,
      ⟨some 6, .mv (.t 5), none⟩,
      ⟨some 7, .fa (.t 1) 3 none, some (6, true)⟩,
      ⟨some 8, .ld (.t 7) none false none, some (6, true)⟩,
      ⟨some 9, .bin .leq (.t 8) (.c (.int .i64 1125899906842624)), some (6, true)⟩,
      ⟨some 10, .pick (.t 6) (.t 9) (.c (.bool false)), none⟩,
      ⟨some 11, .mv (.t 10), none⟩,
      ⟨some 12, .fa (.t 1) 4 none, some (11, true)⟩,
      ⟨some 13, .ld (.t 12) none false none, some (11, true)⟩,
      ⟨some 14, .bin .geq (.t 13) (.c (.int .i64 0)), some (11, true)⟩,
      ⟨some 15, .pick (.t 11) (.t 14) (.c (.bool false)), none⟩,
      ⟨some 16, .mv (.t 15), none⟩,
      ⟨some 17, .fa (.t 1) 4 none, some (16, true)⟩,
      ⟨some 18, .ld (.t 17) none false none, some (16, true)⟩,
      ⟨some 19, .bin .leq (.t 18) (.c (.int .i64 1125899906842624)), some (16, true)⟩,
      ⟨some 20, .pick (.t 16) (.t 19) (.c (.bool false)), none⟩,
      ⟨some 2, .mv (.t 20), none⟩])
    .ret)), [.tmp 2]⟩

/- billing/billingref32.order -/
def a_billingref32_order : AF := ⟨30, (.seq (.reg [
    ⟨some 2, .boxr (.t 0), none⟩,
    ⟨some 3, .boxr (.t 1), none⟩,
    ⟨some 4, .mv (.c (.int .i64 0)), none⟩])
  (.seq (.seq (.reg [
        ⟨some 5, .fa (.t 2) 0 none, none⟩,
        ⟨some 6, .ld (.t 5) none false none, none⟩,
        ⟨some 7, .fa (.t 3) 0 none, none⟩,
        ⟨some 8, .ld (.t 7) none false none, none⟩,
        ⟨some 9, .bin .neq (.t 6) (.t 8), none⟩])
      (.cond (.t 9) (.seq (.reg [
            ⟨some 10, .fa (.t 2) 0 none, none⟩,
            ⟨some 11, .ld (.t 10) none false none, none⟩,
            ⟨some 12, .fa (.t 3) 0 none, none⟩,
            ⟨some 13, .ld (.t 12) none false none, none⟩,
            ⟨some 14, .call n_billingref32_sign [((.t 11), false), ((.t 13), false)] false, none⟩,
            ⟨some 4, .mv (.t 14), none⟩])
          .ret)
        .skip))
    (.seq (.seq (.reg [
          ⟨some 15, .fa (.t 2) 1 none, none⟩,
          ⟨some 16, .ld (.t 15) none false none, none⟩,
          ⟨some 17, .fa (.t 3) 1 none, none⟩,
          ⟨some 18, .ld (.t 17) none false none, none⟩,
          ⟨some 19, .bin .neq (.t 16) (.t 18), none⟩])
        (.cond (.t 19) (.seq (.reg [
              ⟨some 20, .fa (.t 2) 1 none, none⟩,
              ⟨some 21, .ld (.t 20) none false none, none⟩,
              ⟨some 22, .fa (.t 3) 1 none, none⟩,
              ⟨some 23, .ld (.t 22) none false none, none⟩,
              ⟨some 24, .call n_billingref32_sign [((.t 21), false), ((.t 23), false)] false, none⟩,
              ⟨some 4, .mv (.t 24), none⟩])
            .ret)
          .skip))
      (.seq (.reg [
          ⟨some 25, .fa (.t 2) 2 none, none⟩,
          ⟨some 26, .ld (.t 25) none false none, none⟩,
          ⟨some 27, .fa (.t 3) 2 none, none⟩,
          ⟨some 28, .ld (.t 27) none false none, none⟩,
          ⟨some 29, .call n_billingref32_sign [((.t 26), false), ((.t 28), false)] false, none⟩,
          ⟨some 4, .mv (.t 29), none⟩])
        .ret)))), [.tmp 4]⟩

/- billing/counter.Add$1 -/
def counter_Add_1_l1b : AC := (.seq (.reg [
    ⟨some 9, .bin .lss (.t 8) (.t 7), none⟩])
  (.seq (.cond (.t 9) .skip
      (.exit 0))
    (.seq (.blk 1 (.seq (.reg [
            ⟨some 10, .mv (.t 8), none⟩,
            ⟨some 11, .ia (.t 6) (.t 8) 5 none none, none⟩,
            ⟨some 12, .ld (.t 11) (some 5) false none, none⟩,
            ⟨some 5, .newbox [(.int .i64 0), (.int .i64 0), (.int .i64 0), (.int .i64 0), (.int .i64 0)], none⟩,
            ⟨some 4, .mv (.t 10), none⟩,
            ⟨none, .st (.t 5) (.t 12) 5 false (some 5), none⟩])
          (.seq (.reg [
              ⟨some 13, .ld (.t 5) (some 5) false (some 5), none⟩,
              ⟨some 14, .ld (.t 1) (some 5) false none, none⟩,
              ⟨some 15, .call n_counter_compare [((.t 13), false), ((.t 14), false)] false, none⟩])
            (.blk 2 (.seq (.reg [
                  ⟨some 17, .bin .eql (.t 15) (.c (.int .i64 0)), none⟩,
                  ⟨some 16, .mv (.t 17), none⟩])
                (.cond (.t 16) (.seq (.reg [
                      ⟨some 18, .mv (.t 4), none⟩,
                      ⟨some 19, .mv (.t 4), none⟩,
                      ⟨some 20, .bin .add (.t 19) (.c (.int .i64 1)), none⟩,
                      ⟨some 2, .mv (.t 18), none⟩,
                      ⟨some 3, .mv (.t 20), none⟩])
                    .ret)
                  (.seq (.reg [
                      ⟨some 22, .bin .eql (.t 15) (.c (.int .i64 1)), none⟩,
                      ⟨some 21, .mv (.t 22), none⟩])
                    (.cond (.t 21) (.seq (.reg [
                          ⟨some 23, .mv (.t 4), none⟩,
                          ⟨some 24, .mv (.t 4), none⟩,
                          ⟨some 2, .mv (.t 23), none⟩,
                          ⟨some 3, .mv (.t 24), none⟩])
                        .ret)
                      .skip))))))))
      (.reg [
        ⟨some 25, .bin .add (.t 8) (.c (.int .i64 1)), none⟩,
        ⟨some 8, .mv (.t 25), none⟩]))))
def counter_Add_1_l1 : AC := .pre [false, false, true, true, true, true, false, false, false, true, true, true, true, true, true, true, true, true, true, true, true, true, true, true, true, true] counter_Add_1_l1b
@[go_sem] theorem counter_Add_1_l1_go {M : Mach} {k : List It} {s : St} {Q : Ex → St → Prop} : Run M (.c (.loop counter_Add_1_l1) :: k) .norm s Q ↔ Run M (.c counter_Add_1_l1b :: .lp counter_Add_1_l1 :: k) .norm { s with t := killM [false, false, true, true, true, true, false, false, false, true, true, true, true, true, true, true, true, true, true, true, true, true, true, true, true, true] [false, false, true, true, true, true, false, false, false, true, true, true, true, true, true, true, true, true, true, true, true, true, true, true, true, true] s.t } Q := run_loop_pre
@[go_sem] theorem counter_Add_1_l1_lp {M : Mach} {k : List It} {s : St} {Q : Ex → St → Prop} : Run M (.lp counter_Add_1_l1 :: k) .norm s Q ↔ Run M (.c counter_Add_1_l1b :: .lp counter_Add_1_l1 :: k) .norm { s with t := killM [false, false, true, true, true, true, false, false, false, true, true, true, true, true, true, true, true, true, true, true, true, true, true, true, true, true] [false, false, true, true, true, true, false, false, false, true, true, true, true, true, true, true, true, true, true, true, true, true, true, true, true, true] s.t } Q := run_loop_pre
def a_counter_Add_1 : AF := ⟨30, (.seq (.reg [
    ⟨some 2, .mv (.c (.int .i64 0)), none⟩,
    ⟨some 3, .mv (.c (.int .i64 0)), none⟩])
  (.seq (.seq (.reg [
        ⟨some 6, .ld (.t 0) none false none, none⟩,
        ⟨some 7, .len false (.t 6) none, none⟩,
        ⟨some 8, .mv (.c (.int .i64 0)), none⟩])
      (.blk 0 (.loop counter_Add_1_l1)))
    (.pre [false, true, true, true, true, true, true, true, true, true, true, true, true, true, true, true, true, true, true, true, true, true, true, true, true, true] (.seq (.dreg [
        ⟨some 26, .ld (.t 0) none false none, none⟩,
        ⟨some 27, .len false (.t 26) none, none⟩,
        ⟨some 28, .ld (.t 0) none false none, none⟩,
        ⟨some 29, .len false (.t 28) none, none⟩,
        ⟨some 2, .cp (.t 27), none⟩,
        ⟨some 3, .cp (.t 29), none⟩])
      .ret)))), [.tmp 2, .tmp 3]⟩

/- billing/counter.known -/
def counter_known_l1b : AC := (.seq (.reg [
    ⟨some 7, .bin .lss (.t 6) (.c (.int .i64 4)), none⟩])
  (.seq (.cond (.t 7) .skip
      (.exit 0))
    (.seq (.blk 1 (.seq (.reg [
            ⟨some 8, .idx (.t 5) (.t 6) (some 4) 1 false, none⟩,
            ⟨some 4, .mv (.t 8), none⟩])
          (.seq (.reg [
              ⟨some 9, .mv (.t 4), none⟩,
              ⟨some 10, .mv (.t 0), none⟩,
              ⟨some 11, .bin .eql (.t 9) (.t 10), none⟩])
            (.cond (.t 11) (.seq (.reg [
                  ⟨some 2, .mv (.c (.bool true)), none⟩])
                .ret)
              .skip))))
      (.reg [
        ⟨some 12, .bin .add (.t 6) (.c (.int .i64 1)), none⟩,
        ⟨some 6, .mv (.t 12), none⟩]))))
def counter_known_l1 : AC := .pre [false, false, true, false, true, false, false, true, true, true, true, true, true] counter_known_l1b
@[go_sem] theorem counter_known_l1_go {M : Mach} {k : List It} {s : St} {Q : Ex → St → Prop} : Run M (.c (.loop counter_known_l1) :: k) .norm s Q ↔ Run M (.c counter_known_l1b :: .lp counter_known_l1 :: k) .norm { s with t := killM [false, false, true, false, true, false, false, true, true, true, true, true, true] [false, false, true, false, true, false, false, true, true, true, true, true, true] s.t } Q := run_loop_pre
@[go_sem] theorem counter_known_l1_lp {M : Mach} {k : List It} {s : St} {Q : Ex → St → Prop} : Run M (.lp counter_known_l1 :: k) .norm s Q ↔ Run M (.c counter_known_l1b :: .lp counter_known_l1 :: k) .norm { s with t := killM [false, false, true, false, true, false, false, true, true, true, true, true, true] [false, false, true, false, true, false, false, true, true, true, true, true, true] s.t } Q := run_loop_pre
def a_counter_known : AF := ⟨13, (.seq (.reg [
    ⟨some 2, .mv (.c (.bool false)), none⟩])
  (.seq (.seq (.reg [
        ⟨some 5, .build [(.int .i64 0), (.int .i64 0), (.int .i64 0), (.int .i64 0)] [(0, 1, (.c (.int .i64 1))), (1, 1, (.c (.int .i64 2))), (2, 1, (.c (.int .i64 3))), (3, 1, (.c (.int .i64 4)))], none⟩,
        ⟨some 6, .mv (.c (.int .i64 0)), none⟩])
      (.blk 0 (.loop counter_known_l1)))
    (.pre [true, false, true, false, true, true, true, true, true, true, true, true, true] (.seq (.reg [
        ⟨some 2, .mv (.c (.bool false)), none⟩])
      .ret)))), [.tmp 2]⟩

/- billing/billingref32.sign -/
def a_billingref32_sign : AF := ⟨11, (.seq (.reg [
    ⟨some 4, .mv (.c (.int .i64 0)), none⟩])
  (.seq (.seq (.reg [
        ⟨some 5, .mv (.t 0), none⟩,
        ⟨some 6, .mv (.t 1), none⟩,
        ⟨some 7, .bin .lss (.t 5) (.t 6), none⟩])
      (.cond (.t 7) (.seq (.reg [
            ⟨some 4, .mv (.c (.int .i64 (-1))), none⟩])
          .ret)
        .skip))
    (.seq (.seq (.reg [
          ⟨some 8, .mv (.t 0), none⟩,
          ⟨some 9, .mv (.t 1), none⟩,
          ⟨some 10, .bin .gtr (.t 8) (.t 9), none⟩])
        (.cond (.t 10) (.seq (.reg [
              ⟨some 4, .mv (.c (.int .i64 1)), none⟩])
            .ret)
          .skip))
      (.seq (.reg [
          ⟨some 4, .mv (.c (.int .i64 0)), none⟩])
        .ret)))), [.tmp 4]⟩

def ft : FuncId → Option AF
  | 3 => some a_billinglaw32_CounterChecks
  | 4 => some a_billinglaw32_CounterGets
  | 5 => some a_billinglaw32_CounterAdds
  | 6 => some a_billinglaw32_CounterOne
  | 7 => some a_billinglaw32_CounterOrder
  | 8 => some a_billinglaw32_CounterTotals
  | 9 => some a_billinglaw32_awake
  | 10 => some a_counter_Check
  | 11 => some a_billingref32_Check
  | 12 => some a_counter_Get
  | 13 => some a_billingref32_Get
  | 14 => some a_billingref32_Same
  | 15 => some a_counter_Drop
  | 16 => some a_billingref32_Drop
  | 17 => some a_counter_Add
  | 18 => some a_billingref32_Add
  | 19 => some a_counter_permitted
  | 20 => some a_counter_ranged
  | 21 => some a_counter_compare
  | 22 => some a_billingref32_keyed
  | 23 => some a_billingref32_within
  | 24 => some a_billingref32_order
  | 25 => some a_counter_Add_1
  | 26 => some a_counter_known
  | 27 => some a_billingref32_sign
  | _ => none

end Go.Am
