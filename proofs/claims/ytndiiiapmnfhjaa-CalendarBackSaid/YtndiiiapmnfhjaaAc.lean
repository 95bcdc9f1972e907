import Derived.Test.YtndiiiapmnfhjaaAm3
namespace Go.Am
def n_billinglaw03_CalendarDays : FuncId := 3
def n_billinglaw03_CalendarDates : FuncId := 4
def n_billinglaw03_CalendarBack : FuncId := 5
def n_billinglaw03_CalendarCycles : FuncId := 6
def n_billinglaw03_CalendarTiles : FuncId := 7
def n_billinglaw03_CalendarPrints : FuncId := 8
def n_calendar_Day : FuncId := 9
def n_billingref03_Day : FuncId := 10
def n_calendar_Length : FuncId := 11
def n_billingref03_Length : FuncId := 12
def n_billinglaw03_awake : FuncId := 13
def n_calendar_Date : FuncId := 14
def n_billingref03_Date : FuncId := 15
def n_calendar_Weekday : FuncId := 16
def n_billingref03_Weekday : FuncId := 17
def n_calendar_Parse : FuncId := 18
def n_calendar_Print : FuncId := 19
def n_calendar_Cycle : FuncId := 20
def n_billingref03_Cycle : FuncId := 21
def n_billinglaw03_short : FuncId := 22
def n_billinglaw03_same : FuncId := 23
def n_calendar_Cycles : FuncId := 24
def n_billingref03_Cycles : FuncId := 25
def n_billingref03_Parse : FuncId := 26
def n_billingref03_Print : FuncId := 27
def n_calendar_before : FuncId := 28
def n_calendar_days : FuncId := 29
def n_billingref03_before : FuncId := 30
def n_billingref03_leap : FuncId := 31
def n_billingref03_year : FuncId := 32
def n_calendar_digits : FuncId := 33
def n_calendar_cycle : FuncId := 34
def n_calendar_month : FuncId := 35
def n_billingref03_valid : FuncId := 36
def n_billingref03_number : FuncId := 37
def n_billingref03_digits : FuncId := 38
def n_calendar_leap : FuncId := 39
def n_calendar_begin : FuncId := 40

/- billing/billinglaw03.CalendarDays -/
def a_billinglaw03_CalendarDays : AF := ⟨41, (.seq (.reg [
    ⟨some 1, .boxr (.t 0), none⟩,
    ⟨some 2, .mv (.c (.bool false)), none⟩])
  (.seq (.reg [
      ⟨some 8, .ld (.t 1) (some 3) false none, none⟩,
      ⟨some 9, .call n_calendar_Day [((.t 8), false)] false, none⟩,
      ⟨some 7, .mv (.t 9), none⟩,
      ⟨some 10, .ext 7 0, none⟩,
      ⟨some 11, .ext 7 1, none⟩,
      ⟨some 3, .mv (.t 10), none⟩,
      ⟨some 4, .mv (.t 11), none⟩])
    (.seq (.reg [
        ⟨some 13, .ld (.t 1) (some 3) false none, none⟩,
        ⟨some 14, .call n_billingref03_Day [((.t 13), false)] false, none⟩,
        ⟨some 12, .mv (.t 14), none⟩,
        ⟨some 15, .ext 12 0, none⟩,
        ⟨some 16, .ext 12 1, none⟩,
        ⟨some 5, .mv (.t 15), none⟩,
        ⟨some 6, .mv (.t 16), none⟩])
      (.seq (.dreg [
          ⟨some 17, .cp (.t 3), none⟩,
          ⟨some 18, .cp (.t 5), none⟩,
          ⟨some 19, .bin .eql (.t 17) (.t 18), none⟩,
          ⟨some 20, .cp (.t 19), none⟩,
          ⟨some 21, .cp (.t 4), some (20, true)⟩,
          ⟨some 22, .cp (.t 6), some (20, true)⟩,
          ⟨some 23, .bin .eql (.t 21) (.t 22), some (20, true)⟩,
          ⟨some 24, .pick (.t 20) (.t 23) (.c (.bool false)), none⟩,
          ⟨some 25, .cp (.t 24), none⟩,
          ⟨some 26, .fa (.t 1) 0 none, some (25, true)⟩,
          ⟨some 27, .ld (.t 26) none false none, some (25, true)⟩,
          ⟨some 28, .fa (.t 1) 1 none, some (25, true)⟩,
          ⟨some 29, .ld (.t 28) none false none, some (25, true)⟩,
          ⟨some 30, .call n_calendar_Length [((.t 27), false), ((.t 29), false)] false, some (25, true)⟩,
          ⟨some 31, .fa (.t 1) 0 none, some (25, true)⟩,
          ⟨some 32, .ld (.t 31) none false none, some (25, true)⟩,
          ⟨some 33, .fa (.t 1) 1 none, some (25, true)⟩,
          ⟨some 34, .ld (.t 33) none false none, some (25, true)⟩,
          ⟨some 35, .call n_billingref03_Length [((.t 32), false), ((.t 34), false)] false, some (25, true)⟩,
          ⟨some 36, .bin .eql (.t 30) (.t 35), some (25, true)⟩,
          ⟨some 37, .pick (.t 25) (.t 36) (.c (.bool false)), none⟩,
          ⟨some 38, .cp (.t 37), none⟩,
          ⟨some 39, .call n_billinglaw03_awake [] false, some (38, true)⟩,
          ⟨some 40, .pick (.t 38) (.t 39) (.c (.bool false)), none⟩,
          ⟨some 2, .cp (.t 40), none⟩])
        .ret)))), [.tmp 2]⟩

/- billing/billinglaw03.CalendarDates -/
def a_billinglaw03_CalendarDates : AF := ⟨18, (.seq (.reg [
    ⟨some 2, .mv (.c (.bool false)), none⟩])
  (.seq (.reg [
      ⟨some 3, .mv (.t 0), none⟩,
      ⟨some 4, .call n_calendar_Date [((.t 3), false)] false, none⟩,
      ⟨some 5, .mv (.t 0), none⟩,
      ⟨some 6, .call n_billingref03_Date [((.t 5), false)] false, none⟩,
      ⟨some 7, .eqs false [0, 0, 0] (.t 4) (.t 6), none⟩,
      ⟨some 8, .mv (.t 7), none⟩,
      ⟨some 9, .mv (.t 0), some (8, true)⟩,
      ⟨some 10, .call n_calendar_Weekday [((.t 9), false)] false, some (8, true)⟩,
      ⟨some 11, .mv (.t 0), some (8, true)⟩,
      ⟨some 12, .call n_billingref03_Weekday [((.t 11), false)] false, some (8, true)⟩,
      ⟨some 13, .bin .eql (.t 10) (.t 12), some (8, true)⟩,
      ⟨some 14, .pick (.t 8) (.t 13) (.c (.bool false)), none⟩,
      ⟨some 15, .mv (.t 14), none⟩,
      ⟨some 16, .call n_billinglaw03_awake [] false, some (15, true)⟩,
      ⟨some 17, .pick (.t 15) (.t 16) (.c (.bool false)), none⟩,
      ⟨some 2, .mv (.t 17), none⟩])
    .ret)), [.tmp 2]⟩

/- billing/billinglaw03.CalendarBack -/
def a_billinglaw03_CalendarBack : AF := ⟨91, (.seq (.reg [
    ⟨some 4, .boxr (.t 1), none⟩,
    ⟨some 6, .mv (.c (.bool false)), none⟩])
  (.seq (.seq (.reg [
        ⟨some 15, .mv (.t 0), none⟩,
        ⟨some 16, .bin .geq (.t 15) (.c (.int .i64 0)), none⟩,
        ⟨some 17, .mv (.t 16), none⟩,
        ⟨some 18, .mv (.t 0), some (17, true)⟩,
        ⟨some 19, .bin .lss (.t 18) (.c (.int .i64 146097)), some (17, true)⟩,
        ⟨some 20, .pick (.t 17) (.t 19) (.c (.bool false)), none⟩])
      (.cond (.t 20) (.seq (.reg [
            ⟨some 22, .mv (.t 0), none⟩,
            ⟨some 23, .call n_calendar_Date [((.t 22), false)] false, none⟩,
            ⟨some 24, .call n_calendar_Day [((.t 23), false)] false, none⟩,
            ⟨some 21, .mv (.t 24), none⟩,
            ⟨some 25, .ext 21 0, none⟩,
            ⟨some 26, .ext 21 1, none⟩,
            ⟨some 7, .mv (.t 25), none⟩,
            ⟨some 8, .mv (.t 26), none⟩])
          (.seq (.reg [
              ⟨some 28, .mv (.t 0), none⟩,
              ⟨some 29, .call n_calendar_Print [((.t 28), false)] false, none⟩,
              ⟨some 30, .call n_calendar_Parse [((.t 29), false)] false, none⟩,
              ⟨some 27, .mv (.t 30), none⟩,
              ⟨some 31, .ext 27 0, none⟩,
              ⟨some 32, .ext 27 1, none⟩,
              ⟨some 9, .mv (.t 31), none⟩,
              ⟨some 10, .mv (.t 32), none⟩])
            (.seq (.seq (.reg [
                  ⟨some 33, .mv (.t 8), none⟩,
                  ⟨some 34, .bin .neq (.t 33) (.c (.int .i64 0)), none⟩,
                  ⟨some 35, .mv (.t 34), none⟩,
                  ⟨some 36, .mv (.t 10), some (35, false)⟩,
                  ⟨some 37, .bin .neq (.t 36) (.c (.int .i64 0)), some (35, false)⟩,
                  ⟨some 38, .pick (.t 35) (.c (.bool true)) (.t 37), none⟩,
                  ⟨some 39, .mv (.t 38), none⟩,
                  ⟨some 40, .mv (.t 7), some (39, false)⟩,
                  ⟨some 41, .mv (.t 0), some (39, false)⟩,
                  ⟨some 42, .bin .neq (.t 40) (.t 41), some (39, false)⟩,
                  ⟨some 43, .pick (.t 39) (.c (.bool true)) (.t 42), none⟩,
                  ⟨some 44, .mv (.t 43), none⟩,
                  ⟨some 45, .mv (.t 9), some (44, false)⟩,
                  ⟨some 46, .mv (.t 0), some (44, false)⟩,
                  ⟨some 47, .bin .neq (.t 45) (.t 46), some (44, false)⟩,
                  ⟨some 48, .pick (.t 44) (.c (.bool true)) (.t 47), none⟩])
                (.cond (.t 48) (.seq (.reg [
                      ⟨some 6, .mv (.c (.bool false)), none⟩])
                    .ret)
                  .skip))
              (.seq (.reg [
                  ⟨some 49, .mv (.t 0), none⟩,
                  ⟨some 50, .bin .add (.t 49) (.c (.int .i64 1)), none⟩,
                  ⟨some 51, .bin .lss (.t 50) (.c (.int .i64 146097)), none⟩,
                  ⟨some 52, .mv (.t 51), none⟩,
                  ⟨some 53, .mv (.t 0), some (52, true)⟩,
                  ⟨some 54, .bin .add (.t 53) (.c (.int .i64 1)), some (52, true)⟩,
                  ⟨some 55, .call n_calendar_Weekday [((.t 54), false)] false, some (52, true)⟩,
                  ⟨some 56, .mv (.t 0), some (52, true)⟩,
                  ⟨some 57, .call n_calendar_Weekday [((.t 56), false)] false, some (52, true)⟩,
                  ⟨some 58, .bin .add (.t 57) (.c (.int .i64 1)), some (52, true)⟩,
                  ⟨some 59, .bin .rem (.t 58) (.c (.int .i64 7)), some (52, true)⟩,
                  ⟨some 60, .bin .neq (.t 55) (.t 59), some (52, true)⟩,
                  ⟨some 61, .pick (.t 52) (.t 60) (.c (.bool false)), none⟩])
                (.cond (.t 61) (.seq (.reg [
                      ⟨some 6, .mv (.c (.bool false)), none⟩])
                    .ret)
                  .skip)))))
        .skip))
    (.seq (.reg [
        ⟨some 63, .ld (.t 4) (some 3) false none, none⟩,
        ⟨some 64, .call n_calendar_Day [((.t 63), false)] false, none⟩,
        ⟨some 62, .mv (.t 64), none⟩,
        ⟨some 65, .ext 62 0, none⟩,
        ⟨some 66, .ext 62 1, none⟩,
        ⟨some 11, .mv (.t 65), none⟩,
        ⟨some 12, .mv (.t 66), none⟩])
      (.seq (.seq (.dreg [
            ⟨some 67, .cp (.t 12), none⟩,
            ⟨some 68, .bin .eql (.t 67) (.c (.int .i64 0)), none⟩,
            ⟨some 69, .cp (.t 68), none⟩,
            ⟨some 70, .cp (.t 11), some (69, true)⟩,
            ⟨some 71, .call n_calendar_Date [((.t 70), false)] false, some (69, true)⟩,
            ⟨some 72, .ld (.t 4) (some 3) false none, some (69, true)⟩,
            ⟨some 73, .eqs true [0, 0, 0] (.t 71) (.t 72), some (69, true)⟩,
            ⟨some 74, .pick (.t 69) (.t 73) (.c (.bool false)), none⟩])
          (.cond (.t 74) (.seq (.reg [
                ⟨some 6, .mv (.c (.bool false)), none⟩])
              .ret)
            .skip))
        (.seq (.reg [
            ⟨some 76, .mv (.t 2), none⟩,
            ⟨some 77, .call n_calendar_Parse [((.t 76), false)] false, none⟩,
            ⟨some 75, .mv (.t 77), none⟩,
            ⟨some 78, .ext 75 0, none⟩,
            ⟨some 79, .ext 75 1, none⟩,
            ⟨some 13, .mv (.t 78), none⟩,
            ⟨some 14, .mv (.t 79), none⟩])
          (.seq (.reg [
              ⟨some 80, .mv (.t 14), none⟩,
              ⟨some 81, .bin .neq (.t 80) (.c (.int .i64 0)), none⟩,
              ⟨some 82, .mv (.t 81), none⟩,
              ⟨some 83, .mv (.t 13), some (82, false)⟩,
              ⟨some 84, .call n_calendar_Print [((.t 83), false)] false, some (82, false)⟩,
              ⟨some 85, .mv (.t 2), some (82, false)⟩,
              ⟨some 86, .bin .eql (.t 84) (.t 85), some (82, false)⟩,
              ⟨some 87, .pick (.t 82) (.c (.bool true)) (.t 86), none⟩,
              ⟨some 88, .mv (.t 87), none⟩,
              ⟨some 89, .call n_billinglaw03_awake [] false, some (88, true)⟩,
              ⟨some 90, .pick (.t 88) (.t 89) (.c (.bool false)), none⟩,
              ⟨some 6, .mv (.t 90), none⟩])
            .ret)))))), [.tmp 6]⟩

/- billing/billinglaw03.CalendarCycles -/
def a_billinglaw03_CalendarCycles : AF := ⟨45, (.seq (.reg [
    ⟨some 5, .boxr (.t 2), none⟩,
    ⟨some 6, .mv (.c (.bool false)), none⟩])
  (.seq (.seq (.reg [
        ⟨some 7, .mv (.t 0), none⟩,
        ⟨some 8, .mv (.t 1), none⟩,
        ⟨some 9, .call n_calendar_Cycle [((.t 7), false), ((.t 8), false)] false, none⟩,
        ⟨some 10, .mv (.t 0), none⟩,
        ⟨some 11, .mv (.t 1), none⟩,
        ⟨some 12, .call n_billingref03_Cycle [((.t 10), false), ((.t 11), false)] false, none⟩,
        ⟨some 13, .eqs true [0, 0] (.t 9) (.t 12), none⟩])
      (.cond (.t 13) (.seq (.reg [
            ⟨some 6, .mv (.c (.bool false)), none⟩])
          .ret)
        .skip))
    (.seq (.seq (.reg [
          ⟨some 14, .fa (.t 5) 0 none, none⟩,
          ⟨some 15, .ld (.t 14) none false none, none⟩,
          ⟨some 16, .bin .geq (.t 15) (.c (.int .i64 0)), none⟩,
          ⟨some 17, .mv (.t 16), none⟩,
          ⟨some 18, .fa (.t 5) 0 none, some (17, true)⟩,
          ⟨some 19, .ld (.t 18) none false none, some (17, true)⟩,
          ⟨some 20, .fa (.t 5) 1 none, some (17, true)⟩,
          ⟨some 21, .ld (.t 20) none false none, some (17, true)⟩,
          ⟨some 22, .bin .lss (.t 19) (.t 21), some (17, true)⟩,
          ⟨some 23, .pick (.t 17) (.t 22) (.c (.bool false)), none⟩,
          ⟨some 24, .mv (.t 23), none⟩,
          ⟨some 25, .fa (.t 5) 1 none, some (24, true)⟩,
          ⟨some 26, .ld (.t 25) none false none, some (24, true)⟩,
          ⟨some 27, .bin .leq (.t 26) (.c (.int .i64 12622780800)), some (24, true)⟩,
          ⟨some 28, .pick (.t 24) (.t 27) (.c (.bool false)), none⟩,
          ⟨some 29, .mv (.t 28), none⟩,
          ⟨some 30, .ld (.t 5) (some 2) false none, some (29, true)⟩,
          ⟨some 31, .call n_billinglaw03_short [((.t 30), false)] false, some (29, true)⟩,
          ⟨some 32, .un .not (.t 31), some (29, true)⟩,
          ⟨some 33, .pick (.t 29) (.t 32) (.c (.bool false)), none⟩])
        (.cond (.t 33) (.seq (.reg [
              ⟨some 34, .call n_billinglaw03_awake [] false, none⟩,
              ⟨some 6, .mv (.t 34), none⟩])
            .ret)
          .skip))
      (.seq (.dreg [
          ⟨some 35, .cp (.t 0), none⟩,
          ⟨some 36, .ld (.t 5) (some 2) false none, none⟩,
          ⟨some 37, .call n_calendar_Cycles [((.t 35), false), ((.t 36), false)] false, none⟩,
          ⟨some 38, .cp (.t 0), none⟩,
          ⟨some 39, .ld (.t 5) (some 2) false none, none⟩,
          ⟨some 40, .call n_billingref03_Cycles [((.t 38), false), ((.t 39), false)] false, none⟩,
          ⟨some 41, .call n_billinglaw03_same [((.t 37), true), ((.t 40), true)] false, none⟩,
          ⟨some 42, .cp (.t 41), none⟩,
          ⟨some 43, .call n_billinglaw03_awake [] false, some (42, true)⟩,
          ⟨some 44, .pick (.t 42) (.t 43) (.c (.bool false)), none⟩,
          ⟨some 6, .cp (.t 44), none⟩])
        .ret)))), [.tmp 6]⟩

/- billing/billinglaw03.CalendarTiles -/
def billinglaw03_CalendarTiles_l1b : AC := (.seq (.seq (.reg [
      ⟨some 110, .mv (.t 9), none⟩,
      ⟨some 111, .al 8, none⟩,
      ⟨some 112, .len false (.t 111) (some 8), none⟩,
      ⟨some 113, .bin .lss (.t 110) (.t 112), none⟩])
    (.cond (.t 113) .skip
      (.exit 0)))
  (.seq (.blk 1 (.seq (.dreg [
          ⟨some 116, .al 8, none⟩,
          ⟨some 117, .cp (.t 9), none⟩,
          ⟨some 118, .ia (.t 116) (.t 117) 2 none (some 8), none⟩,
          ⟨some 119, .fa (.t 118) 0 none, none⟩,
          ⟨some 120, .ld (.t 119) none false none, none⟩,
          ⟨some 121, .al 8, none⟩,
          ⟨some 122, .cp (.t 9), none⟩,
          ⟨some 123, .bin .sub (.t 122) (.c (.int .i64 1)), none⟩,
          ⟨some 124, .ia (.t 121) (.t 123) 2 none (some 8), none⟩,
          ⟨some 125, .fa (.t 124) 1 none, none⟩,
          ⟨some 126, .ld (.t 125) none false none, none⟩,
          ⟨some 127, .bin .neq (.t 120) (.t 126), none⟩,
          ⟨some 128, .cp (.t 127), none⟩,
          ⟨some 129, .al 8, some (128, false)⟩,
          ⟨some 130, .cp (.t 9), some (128, false)⟩,
          ⟨some 131, .ia (.t 129) (.t 130) 2 none (some 8), some (128, false)⟩,
          ⟨some 132, .ld (.t 131) (some 2) false none, some (128, false)⟩,
          ⟨some 133, .cp (.t 0), some (128, false)⟩,
          ⟨some 134, .al 8, some (128, false)⟩,
          ⟨some 135, .cp (.t 9), some (128, false)⟩,
          ⟨some 136, .ia (.t 134) (.t 135) 2 none (some 8), some (128, false)⟩,
          ⟨some 137, .fa (.t 136) 0 none, some (128, false)⟩,
          ⟨some 138, .ld (.t 137) none false none, some (128, false)⟩,
          ⟨some 139, .call n_calendar_Cycle [((.t 133), false), ((.t 138), false)] false, some (128, false)⟩,
          ⟨some 140, .eqs true [0, 0] (.t 132) (.t 139), some (128, false)⟩,
          ⟨some 141, .pick (.t 128) (.c (.bool true)) (.t 140), none⟩])
        (.cond (.t 141) (.seq (.reg [
              ⟨some 6, .mv (.c (.bool false)), none⟩])
            .ret)
          .skip)))
    (.reg [
      ⟨some 114, .mv (.t 9), none⟩,
      ⟨some 115, .bin .add (.t 114) (.c (.int .i64 1)), none⟩,
      ⟨some 9, .mv (.t 115), none⟩])))
def billinglaw03_CalendarTiles_l1 : AC := .pre [false, false, false, false, false, false, true, false, false, false, false, false, false, false, false, false, false, false, false, false, false, false, false, false, false, false, false, false, false, false, false, false, false, false, false, false, false, false, false, false, false, false, false, false, false, false, false, false, false, false, false, false, false, false, false, false, false, false, false, false, false, false, false, false, false, false, false, false, false, false, false, false, false, false, false, false, false, false, false, false, false, false, false, false, false, false, false, false, false, false, false, false, false, false, false, false, false, false, false, false, false, false, false, false, false, false, false, false, false, false, true, true, true, true, true, true, true, true, true, true, true, true, true, true, true, true, true, true, true, true, true, true, true, true, true, true, true, true, true, true, true, true] billinglaw03_CalendarTiles_l1b
@[go_sem] theorem billinglaw03_CalendarTiles_l1_go {M : Mach} {k : List It} {s : St} {Q : Ex → St → Prop} : Run M (.c (.loop billinglaw03_CalendarTiles_l1) :: k) .norm s Q ↔ Run M (.c billinglaw03_CalendarTiles_l1b :: .lp billinglaw03_CalendarTiles_l1 :: k) .norm { s with t := killM [false, false, false, false, false, false, true, false, false, false, false, false, false, false, false, false, false, false, false, false, false, false, false, false, false, false, false, false, false, false, false, false, false, false, false, false, false, false, false, false, false, false, false, false, false, false, false, false, false, false, false, false, false, false, false, false, false, false, false, false, false, false, false, false, false, false, false, false, false, false, false, false, false, false, false, false, false, false, false, false, false, false, false, false, false, false, false, false, false, false, false, false, false, false, false, false, false, false, false, false, false, false, false, false, false, false, false, false, false, false, true, true, true, true, true, true, true, true, true, true, true, true, true, true, true, true, true, true, true, true, true, true, true, true, true, true, true, true, true, true, true, true] [false, false, false, false, false, false, true, false, false, false, false, false, false, false, false, false, false, false, false, false, false, false, false, false, false, false, false, false, false, false, false, false, false, false, false, false, false, false, false, false, false, false, false, false, false, false, false, false, false, false, false, false, false, false, false, false, false, false, false, false, false, false, false, false, false, false, false, false, false, false, false, false, false, false, false, false, false, false, false, false, false, false, false, false, false, false, false, false, false, false, false, false, false, false, false, false, false, false, false, false, false, false, false, false, false, false, false, false, false, false, true, true, true, true, true, true, true, true, true, true, true, true, true, true, true, true, true, true, true, true, true, true, true, true, true, true, true, true, true, true, true, true] s.t } Q := run_loop_pre
@[go_sem] theorem billinglaw03_CalendarTiles_l1_lp {M : Mach} {k : List It} {s : St} {Q : Ex → St → Prop} : Run M (.lp billinglaw03_CalendarTiles_l1 :: k) .norm s Q ↔ Run M (.c billinglaw03_CalendarTiles_l1b :: .lp billinglaw03_CalendarTiles_l1 :: k) .norm { s with t := killM [false, false, false, false, false, false, true, false, false, false, false, false, false, false, false, false, false, false, false, false, false, false, false, false, false, false, false, false, false, false, false, false, false, false, false, false, false, false, false, false, false, false, false, false, false, false, false, false, false, false, false, false, false, false, false, false, false, false, false, false, false, false, false, false, false, false, false, false, false, false, false, false, false, false, false, false, false, false, false, false, false, false, false, false, false, false, false, false, false, false, false, false, false, false, false, false, false, false, false, false, false, false, false, false, false, false, false, false, false, false, true, true, true, true, true, true, true, true, true, true, true, true, true, true, true, true, true, true, true, true, true, true, true, true, true, true, true, true, true, true, true, true] [false, false, false, false, false, false, true, false, false, false, false, false, false, false, false, false, false, false, false, false, false, false, false, false, false, false, false, false, false, false, false, false, false, false, false, false, false, false, false, false, false, false, false, false, false, false, false, false, false, false, false, false, false, false, false, false, false, false, false, false, false, false, false, false, false, false, false, false, false, false, false, false, false, false, false, false, false, false, false, false, false, false, false, false, false, false, false, false, false, false, false, false, false, false, false, false, false, false, false, false, false, false, false, false, false, false, false, false, false, false, true, true, true, true, true, true, true, true, true, true, true, true, true, true, true, true, true, true, true, true, true, true, true, true, true, true, true, true, true, true, true, true] s.t } Q := run_loop_pre
def a_billinglaw03_CalendarTiles : AF := ⟨143, (.seq (.reg [
    ⟨some 5, .boxr (.t 2), none⟩,
    ⟨some 6, .mv (.c (.bool false)), none⟩])
  (.seq (.seq (.reg [
        ⟨some 10, .mv (.t 0), none⟩,
        ⟨some 11, .bin .lss (.t 10) (.c (.int .i64 1)), none⟩,
        ⟨some 12, .mv (.t 11), none⟩,
        ⟨some 13, .mv (.t 0), some (12, false)⟩,
        ⟨some 14, .bin .gtr (.t 13) (.c (.int .i64 28)), some (12, false)⟩,
        ⟨some 15, .pick (.t 12) (.c (.bool true)) (.t 14), none⟩,
        ⟨some 16, .mv (.t 15), none⟩,
        ⟨some 17, .mv (.t 1), some (16, false)⟩,
        ⟨some 18, .bin .lss (.t 17) (.c (.int .i64 0)), some (16, false)⟩,
        ⟨some 19, .pick (.t 16) (.c (.bool true)) (.t 18), none⟩,
        ⟨some 20, .mv (.t 19), none⟩,
        ⟨some 21, .mv (.t 1), some (20, false)⟩,
        ⟨some 22, .bin .geq (.t 21) (.c (.int .i64 12622780800)), some (20, false)⟩,
        ⟨some 23, .pick (.t 20) (.c (.bool true)) (.t 22), none⟩])
      (.cond (.t 23) (.seq (.reg [
            ⟨some 24, .call n_billinglaw03_awake [] false, none⟩,
            ⟨some 6, .mv (.t 24), none⟩])
          .ret)
        .skip))
    (.seq (.reg [
        ⟨some 25, .mv (.t 0), none⟩,
        ⟨some 26, .mv (.t 1), none⟩,
        ⟨some 27, .call n_calendar_Cycle [((.t 25), false), ((.t 26), false)] false, none⟩,
        ⟨some 7, .newbox [(.int .i64 0), (.int .i64 0)], none⟩,
        ⟨none, .st (.t 7) (.t 27) 2 false (some 7), none⟩])
      (.seq (.seq (.dreg [
            ⟨some 28, .fa (.t 7) 0 (some 7), none⟩,
            ⟨some 29, .ld (.t 28) none false (some 7), none⟩,
            ⟨some 30, .cp (.t 1), none⟩,
            ⟨some 31, .bin .gtr (.t 29) (.t 30), none⟩,
            ⟨some 32, .cp (.t 31), none⟩,
            ⟨some 33, .fa (.t 7) 1 (some 7), some (32, false)⟩,
            ⟨some 34, .ld (.t 33) none false (some 7), some (32, false)⟩,
            ⟨some 35, .cp (.t 1), some (32, false)⟩,
            ⟨some 36, .bin .leq (.t 34) (.t 35), some (32, false)⟩,
            ⟨some 37, .pick (.t 32) (.c (.bool true)) (.t 36), none⟩,
            ⟨some 38, .cp (.t 37), none⟩,
            ⟨some 39, .cp (.t 0), some (38, false)⟩,
            ⟨some 40, .ld (.t 7) (some 2) false (some 7), some (38, false)⟩,
            ⟨some 41, .call n_calendar_Cycles [((.t 39), false), ((.t 40), false)] false, some (38, false)⟩,
            ⟨some 42, .ld (.t 7) (some 2) false (some 7), some (38, false)⟩,
            ⟨some 43, .bsl 2 1 (.agg [(.int .i64 0), (.int .i64 0)]) [(0, (.t 42))], some (38, false)⟩,
            ⟨some 44, .call n_billinglaw03_same [((.t 41), true), ((.t 43), true)] false, some (38, false)⟩,
            ⟨some 45, .un .not (.t 44), some (38, false)⟩,
            ⟨some 46, .pick (.t 38) (.c (.bool true)) (.t 45), none⟩])
          (.cond (.t 46) (.seq (.reg [
                ⟨some 6, .mv (.c (.bool false)), none⟩])
              .ret)
            .skip))
        (.seq (.seq (.dreg [
              ⟨some 47, .fa (.t 7) 1 (some 7), none⟩,
              ⟨some 48, .ld (.t 47) none false (some 7), none⟩,
              ⟨some 49, .bin .lss (.t 48) (.c (.int .i64 12622780800)), none⟩,
              ⟨some 50, .cp (.t 49), none⟩,
              ⟨some 51, .cp (.t 0), some (50, true)⟩,
              ⟨some 52, .fa (.t 7) 1 (some 7), some (50, true)⟩,
              ⟨some 53, .ld (.t 52) none false (some 7), some (50, true)⟩,
              ⟨some 54, .call n_calendar_Cycle [((.t 51), false), ((.t 53), false)] false, some (50, true)⟩,
              ⟨some 55, .fld (.t 54) 0 1 false, some (50, true)⟩,
              ⟨some 56, .fa (.t 7) 1 (some 7), some (50, true)⟩,
              ⟨some 57, .ld (.t 56) none false (some 7), some (50, true)⟩,
              ⟨some 58, .bin .neq (.t 55) (.t 57), some (50, true)⟩,
              ⟨some 59, .pick (.t 50) (.t 58) (.c (.bool false)), none⟩,
              ⟨some 60, .cp (.t 59), none⟩,
              ⟨some 61, .fa (.t 7) 0 (some 7), some (60, false)⟩,
              ⟨some 62, .ld (.t 61) none false (some 7), some (60, false)⟩,
              ⟨some 63, .bin .gtr (.t 62) (.c (.int .i64 0)), some (60, false)⟩,
              ⟨some 64, .cp (.t 63), some (60, false)⟩,
              ⟨some 65, .cp (.t 0), some (64, true)⟩,
              ⟨some 66, .fa (.t 7) 0 (some 7), some (64, true)⟩,
              ⟨some 67, .ld (.t 66) none false (some 7), some (64, true)⟩,
              ⟨some 68, .bin .sub (.t 67) (.c (.int .i64 1)), some (64, true)⟩,
              ⟨some 69, .call n_calendar_Cycle [((.t 65), false), ((.t 68), false)] false, some (64, true)⟩,
              ⟨some 70, .fld (.t 69) 1 1 false, some (64, true)⟩,
              ⟨some 71, .fa (.t 7) 0 (some 7), some (64, true)⟩,
              ⟨some 72, .ld (.t 71) none false (some 7), some (64, true)⟩,
              ⟨some 73, .bin .neq (.t 70) (.t 72), some (64, true)⟩,
              ⟨some 74, .pick (.t 64) (.t 73) (.c (.bool false)), some (60, false)⟩,
              ⟨some 75, .pick (.t 60) (.c (.bool true)) (.t 74), none⟩])
            (.cond (.t 75) (.seq (.reg [
                  ⟨some 6, .mv (.c (.bool false)), none⟩])
                .ret)
              .skip))
          (.seq (.seq (.reg [
                ⟨some 76, .ld (.t 5) (some 2) false none, none⟩,
                ⟨some 77, .call n_billinglaw03_short [((.t 76), false)] false, none⟩,
                ⟨some 78, .un .not (.t 77), none⟩])
              (.cond (.t 78) (.seq (.reg [
                    ⟨some 79, .call n_billinglaw03_awake [] false, none⟩,
                    ⟨some 6, .mv (.t 79), none⟩])
                  .ret)
                .skip))
            (.seq (.reg [
                ⟨some 80, .mv (.t 0), none⟩,
                ⟨some 81, .ld (.t 5) (some 2) false none, none⟩,
                ⟨some 82, .call n_calendar_Cycles [((.t 80), false), ((.t 81), false)] false, none⟩,
                ⟨none, .cm 82, none⟩,
                ⟨some 8, .mv (.t 82), none⟩,
                ⟨none, .cm 8, none⟩])
              (.seq (.seq (.dreg [
                    ⟨some 83, .al 8, none⟩,
                    ⟨some 84, .len false (.t 83) (some 8), none⟩,
                    ⟨some 85, .bin .eql (.t 84) (.c (.int .i64 0)), none⟩,
                    ⟨some 86, .cp (.t 85), none⟩,
                    ⟨some 87, .al 8, some (86, false)⟩,
                    ⟨some 88, .ia (.t 87) (.c (.int .i64 0)) 2 none (some 8), some (86, false)⟩,
                    ⟨some 89, .ld (.t 88) (some 2) false none, some (86, false)⟩,
                    ⟨some 90, .cp (.t 0), some (86, false)⟩,
                    ⟨some 91, .fa (.t 5) 0 none, some (86, false)⟩,
                    ⟨some 92, .ld (.t 91) none false none, some (86, false)⟩,
                    ⟨some 93, .call n_calendar_Cycle [((.t 90), false), ((.t 92), false)] false, some (86, false)⟩,
                    ⟨some 94, .eqs true [0, 0] (.t 89) (.t 93), some (86, false)⟩,
                    ⟨some 95, .pick (.t 86) (.c (.bool true)) (.t 94), none⟩,
                    ⟨some 96, .cp (.t 95), none⟩,
                    ⟨some 97, .al 8, some (96, false)⟩,
                    ⟨some 98, .al 8, some (96, false)⟩,
                    ⟨some 99, .len false (.t 98) (some 8), some (96, false)⟩,
                    ⟨some 100, .bin .sub (.t 99) (.c (.int .i64 1)), some (96, false)⟩,
                    ⟨some 101, .ia (.t 97) (.t 100) 2 none (some 8), some (96, false)⟩,
                    ⟨some 102, .ld (.t 101) (some 2) false none, some (96, false)⟩,
                    ⟨some 103, .cp (.t 0), some (96, false)⟩,
                    ⟨some 104, .fa (.t 5) 1 none, some (96, false)⟩,
                    ⟨some 105, .ld (.t 104) none false none, some (96, false)⟩,
                    ⟨some 106, .bin .sub (.t 105) (.c (.int .i64 1)), some (96, false)⟩,
                    ⟨some 107, .call n_calendar_Cycle [((.t 103), false), ((.t 106), false)] false, some (96, false)⟩,
                    ⟨some 108, .eqs true [0, 0] (.t 102) (.t 107), some (96, false)⟩,
                    ⟨some 109, .pick (.t 96) (.c (.bool true)) (.t 108), none⟩])
                  (.cond (.t 109) (.seq (.reg [
                        ⟨some 6, .mv (.c (.bool false)), none⟩])
                      .ret)
                    .skip))
                (.seq (.seq (.reg [
                      ⟨some 9, .mv (.c (.int .i64 1)), none⟩])
                    (.blk 0 (.pre [false, true, true, false, false, true, false, true, false, false, true, true, true, true, true, true, true, true, true, true, true, true, true, true, true, true, true, true, true, true, true, true, true, true, true, true, true, true, true, true, true, true, true, true, true, true, true, true, true, true, true, true, true, true, true, true, true, true, true, true, true, true, true, true, true, true, true, true, true, true, true, true, true, true, true, true, true, true, true, true, true, true, true, true, true, true, true, true, true, true, true, true, true, true, true, true, true, true, true, true, true, true, true, true, true, true, true, true, true, true] (.loop billinglaw03_CalendarTiles_l1))))
                  (.pre [true, true, true, false, false, true, true, true, true, true, true, true, true, true, true, true, true, true, true, true, true, true, true, true, true, true, true, true, true, true, true, true, true, true, true, true, true, true, true, true, true, true, true, true, true, true, true, true, true, true, true, true, true, true, true, true, true, true, true, true, true, true, true, true, true, true, true, true, true, true, true, true, true, true, true, true, true, true, true, true, true, true, true, true, true, true, true, true, true, true, true, true, true, true, true, true, true, true, true, true, true, true, true, true, true, true, true, true, true, true, true, true, true, true, true, true, true, true, true, true, true, true, true, true, true, true, true, true, true, true, true, true, true, true, true, true, true, true, true, true, true, true] (.seq (.reg [
                      ⟨some 142, .call n_billinglaw03_awake [] false, none⟩,
                      ⟨some 6, .mv (.t 142), none⟩])
                    .ret))))))))))), [.tmp 6]⟩

/- billing/billinglaw03.CalendarPrints -/
def a_billinglaw03_CalendarPrints : AF := ⟨37, (.seq (.reg [
    ⟨some 4, .mv (.c (.bool false)), none⟩])
  (.seq (.reg [
      ⟨some 10, .mv (.t 1), none⟩,
      ⟨some 11, .call n_calendar_Parse [((.t 10), false)] false, none⟩,
      ⟨some 9, .mv (.t 11), none⟩,
      ⟨some 12, .ext 9 0, none⟩,
      ⟨some 13, .ext 9 1, none⟩,
      ⟨some 5, .mv (.t 12), none⟩,
      ⟨some 6, .mv (.t 13), none⟩])
    (.seq (.reg [
        ⟨some 15, .mv (.t 1), none⟩,
        ⟨some 16, .call n_billingref03_Parse [((.t 15), false)] false, none⟩,
        ⟨some 14, .mv (.t 16), none⟩,
        ⟨some 17, .ext 14 0, none⟩,
        ⟨some 18, .ext 14 1, none⟩,
        ⟨some 7, .mv (.t 17), none⟩,
        ⟨some 8, .mv (.t 18), none⟩])
      (.seq (.reg [
          ⟨some 19, .mv (.t 0), none⟩,
          ⟨some 20, .call n_calendar_Print [((.t 19), false)] false, none⟩,
          ⟨some 21, .mv (.t 0), none⟩,
          ⟨some 22, .call n_billingref03_Print [((.t 21), false)] false, none⟩,
          ⟨some 23, .bin .eql (.t 20) (.t 22), none⟩,
          ⟨some 24, .mv (.t 23), none⟩,
          ⟨some 25, .mv (.t 5), some (24, true)⟩,
          ⟨some 26, .mv (.t 7), some (24, true)⟩,
          ⟨some 27, .bin .eql (.t 25) (.t 26), some (24, true)⟩,
          ⟨some 28, .pick (.t 24) (.t 27) (.c (.bool false)), none⟩,
          ⟨some 29, .mv (.t 28), none⟩,
          ⟨some 30, .mv (.t 6), some (29, true)⟩,
          ⟨some 31, .mv (.t 8), some (29, true)⟩,
          ⟨some 32, .bin .eql (.t 30) (.t 31), some (29, true)⟩,
          ⟨some 33, .pick (.t 29) (.t 32) (.c (.bool false)), none⟩,
          ⟨some 34, .mv (.t 33), none⟩,
          ⟨some 35, .call n_billinglaw03_awake [] false, some (34, true)⟩,
          ⟨some 36, .pick (.t 34) (.t 35) (.c (.bool false)), none⟩,
          ⟨some 4, .mv (.t 36), none⟩])
        .ret)))), [.tmp 4]⟩

/- billing/calendar.Day -/
def calendar_Day_l1b : AC := (.seq (.seq (.reg [
      ⟨some 26, .mv (.t 5), none⟩,
      ⟨some 27, .fa (.t 1) 1 none, none⟩,
      ⟨some 28, .ld (.t 27) none false none, none⟩,
      ⟨some 29, .bin .lss (.t 26) (.t 28), none⟩])
    (.cond (.t 29) .skip
      (.exit 0)))
  (.seq (.blk 1 (.reg [
        ⟨some 32, .mv (.t 4), none⟩,
        ⟨some 33, .fa (.t 1) 0 none, none⟩,
        ⟨some 34, .ld (.t 33) none false none, none⟩,
        ⟨some 35, .mv (.t 5), none⟩,
        ⟨some 36, .call n_calendar_days [((.t 34), false), ((.t 35), false)] false, none⟩,
        ⟨some 37, .bin .add (.t 32) (.t 36), none⟩,
        ⟨some 4, .mv (.t 37), none⟩]))
    (.reg [
      ⟨some 30, .mv (.t 5), none⟩,
      ⟨some 31, .bin .add (.t 30) (.c (.int .i64 1)), none⟩,
      ⟨some 5, .mv (.t 31), none⟩])))
def calendar_Day_l1 : AC := .pre [false, false, false, false, false, false, false, false, false, false, false, false, false, false, false, false, false, false, false, false, false, false, false, false, false, false, true, true, true, true, true, true, true, true, true, true, true, true] calendar_Day_l1b
@[go_sem] theorem calendar_Day_l1_go {M : Mach} {k : List It} {s : St} {Q : Ex → St → Prop} : Run M (.c (.loop calendar_Day_l1) :: k) .norm s Q ↔ Run M (.c calendar_Day_l1b :: .lp calendar_Day_l1 :: k) .norm { s with t := killM [false, false, false, false, false, false, false, false, false, false, false, false, false, false, false, false, false, false, false, false, false, false, false, false, false, false, true, true, true, true, true, true, true, true, true, true, true, true] [false, false, false, false, false, false, false, false, false, false, false, false, false, false, false, false, false, false, false, false, false, false, false, false, false, false, true, true, true, true, true, true, true, true, true, true, true, true] s.t } Q := run_loop_pre
@[go_sem] theorem calendar_Day_l1_lp {M : Mach} {k : List It} {s : St} {Q : Ex → St → Prop} : Run M (.lp calendar_Day_l1 :: k) .norm s Q ↔ Run M (.c calendar_Day_l1b :: .lp calendar_Day_l1 :: k) .norm { s with t := killM [false, false, false, false, false, false, false, false, false, false, false, false, false, false, false, false, false, false, false, false, false, false, false, false, false, false, true, true, true, true, true, true, true, true, true, true, true, true] [false, false, false, false, false, false, false, false, false, false, false, false, false, false, false, false, false, false, false, false, false, false, false, false, false, false, true, true, true, true, true, true, true, true, true, true, true, true] s.t } Q := run_loop_pre
def a_calendar_Day : AF := ⟨39, (.seq (.reg [
    ⟨some 1, .boxr (.t 0), none⟩,
    ⟨some 2, .mv (.c (.int .i64 0)), none⟩,
    ⟨some 3, .mv (.c (.int .i64 0)), none⟩])
  (.seq (.seq (.dreg [
        ⟨some 6, .fa (.t 1) 2 none, none⟩,
        ⟨some 7, .ld (.t 6) none false none, none⟩,
        ⟨some 8, .bin .lss (.t 7) (.c (.int .i64 1)), none⟩,
        ⟨some 9, .cp (.t 8), none⟩,
        ⟨some 10, .fa (.t 1) 2 none, some (9, false)⟩,
        ⟨some 11, .ld (.t 10) none false none, some (9, false)⟩,
        ⟨some 12, .fa (.t 1) 0 none, some (9, false)⟩,
        ⟨some 13, .ld (.t 12) none false none, some (9, false)⟩,
        ⟨some 14, .fa (.t 1) 1 none, some (9, false)⟩,
        ⟨some 15, .ld (.t 14) none false none, some (9, false)⟩,
        ⟨some 16, .call n_calendar_Length [((.t 13), false), ((.t 15), false)] false, some (9, false)⟩,
        ⟨some 17, .bin .gtr (.t 11) (.t 16), some (9, false)⟩,
        ⟨some 18, .pick (.t 9) (.c (.bool true)) (.t 17), none⟩])
      (.cond (.t 18) (.seq (.reg [
            ⟨some 2, .mv (.c (.int .i64 0)), none⟩,
            ⟨some 3, .mv (.c (.int .i64 6)), none⟩])
          .ret)
        .skip))
    (.seq (.dreg [
        ⟨some 19, .fa (.t 1) 0 none, none⟩,
        ⟨some 20, .ld (.t 19) none false none, none⟩,
        ⟨some 21, .call n_calendar_before [((.t 20), false)] false, none⟩,
        ⟨some 22, .fa (.t 1) 2 none, none⟩,
        ⟨some 23, .ld (.t 22) none false none, none⟩,
        ⟨some 24, .bin .add (.t 21) (.t 23), none⟩,
        ⟨some 25, .bin .sub (.t 24) (.c (.int .i64 1)), none⟩,
        ⟨some 4, .cp (.t 25), none⟩])
      (.seq (.seq (.reg [
            ⟨some 5, .mv (.c (.int .i64 1)), none⟩])
          (.blk 0 (.pre [true, false, true, true, false, false, true, true, true, true, true, true, true, true, true, true, true, true, true, true, true, true, true, true, true, true] (.loop calendar_Day_l1))))
        (.pre [true, true, true, true, false, true, true, true, true, true, true, true, true, true, true, true, true, true, true, true, true, true, true, true, true, true, true, true, true, true, true, true, true, true, true, true, true, true] (.seq (.reg [
            ⟨some 38, .mv (.t 4), none⟩,
            ⟨some 2, .mv (.t 38), none⟩,
            ⟨some 3, .mv (.c (.int .i64 0)), none⟩])
          .ret)))))), [.tmp 2, .tmp 3]⟩

/- billing/billingref03.Day -/
def a_billingref03_Day : AF := ⟨26, (.seq (.reg [
    ⟨some 1, .boxr (.t 0), none⟩,
    ⟨some 2, .mv (.c (.int .i64 0)), none⟩,
    ⟨some 3, .mv (.c (.int .i64 0)), none⟩])
  (.seq (.seq (.dreg [
        ⟨some 4, .fa (.t 1) 2 none, none⟩,
        ⟨some 5, .ld (.t 4) none false none, none⟩,
        ⟨some 6, .bin .lss (.t 5) (.c (.int .i64 1)), none⟩,
        ⟨some 7, .cp (.t 6), none⟩,
        ⟨some 8, .fa (.t 1) 2 none, some (7, false)⟩,
        ⟨some 9, .ld (.t 8) none false none, some (7, false)⟩,
        ⟨some 10, .fa (.t 1) 0 none, some (7, false)⟩,
        ⟨some 11, .ld (.t 10) none false none, some (7, false)⟩,
        ⟨some 12, .fa (.t 1) 1 none, some (7, false)⟩,
        ⟨some 13, .ld (.t 12) none false none, some (7, false)⟩,
        ⟨some 14, .call n_billingref03_Length [((.t 11), false), ((.t 13), false)] false, some (7, false)⟩,
        ⟨some 15, .bin .gtr (.t 9) (.t 14), some (7, false)⟩,
        ⟨some 16, .pick (.t 7) (.c (.bool true)) (.t 15), none⟩])
      (.cond (.t 16) (.seq (.reg [
            ⟨some 2, .mv (.c (.int .i64 0)), none⟩,
            ⟨some 3, .mv (.c (.int .i64 6)), none⟩])
          .ret)
        .skip))
    (.seq (.dreg [
        ⟨some 17, .fa (.t 1) 0 none, none⟩,
        ⟨some 18, .ld (.t 17) none false none, none⟩,
        ⟨some 19, .fa (.t 1) 1 none, none⟩,
        ⟨some 20, .ld (.t 19) none false none, none⟩,
        ⟨some 21, .call n_billingref03_before [((.t 18), false), ((.t 20), false)] false, none⟩,
        ⟨some 22, .fa (.t 1) 2 none, none⟩,
        ⟨some 23, .ld (.t 22) none false none, none⟩,
        ⟨some 24, .bin .add (.t 21) (.t 23), none⟩,
        ⟨some 25, .bin .sub (.t 24) (.c (.int .i64 1)), none⟩,
        ⟨some 2, .cp (.t 25), none⟩,
        ⟨some 3, .mv (.c (.int .i64 0)), none⟩])
      .ret))), [.tmp 2, .tmp 3]⟩

/- billing/calendar.Length -/
def a_calendar_Length : AF := ⟨22, (.seq (.reg [
    ⟨some 4, .mv (.c (.int .i64 0)), none⟩])
  (.seq (.seq (.reg [
        ⟨some 5, .mv (.t 0), none⟩,
        ⟨some 6, .bin .lss (.t 5) (.c (.int .i64 2000)), none⟩,
        ⟨some 7, .mv (.t 6), none⟩,
        ⟨some 8, .mv (.t 0), some (7, false)⟩,
        ⟨some 9, .bin .gtr (.t 8) (.c (.int .i64 2399)), some (7, false)⟩,
        ⟨some 10, .pick (.t 7) (.c (.bool true)) (.t 9), none⟩,
        ⟨some 11, .mv (.t 10), none⟩,
        ⟨some 12, .mv (.t 1), some (11, false)⟩,
        ⟨some 13, .bin .lss (.t 12) (.c (.int .i64 1)), some (11, false)⟩,
        ⟨some 14, .pick (.t 11) (.c (.bool true)) (.t 13), none⟩,
        ⟨some 15, .mv (.t 14), none⟩,
        ⟨some 16, .mv (.t 1), some (15, false)⟩,
        ⟨some 17, .bin .gtr (.t 16) (.c (.int .i64 12)), some (15, false)⟩,
        ⟨some 18, .pick (.t 15) (.c (.bool true)) (.t 17), none⟩])
      (.cond (.t 18) (.seq (.reg [
            ⟨some 4, .mv (.c (.int .i64 0)), none⟩])
          .ret)
        .skip))
    (.seq (.reg [
        ⟨some 19, .mv (.t 0), none⟩,
        ⟨some 20, .mv (.t 1), none⟩,
        ⟨some 21, .call n_calendar_days [((.t 19), false), ((.t 20), false)] false, none⟩,
        ⟨some 4, .mv (.t 21), none⟩])
      .ret))), [.tmp 4]⟩

/- billing/billingref03.Length -/
def a_billingref03_Length : AF := ⟨37, (.seq (.reg [
    ⟨some 4, .mv (.c (.int .i64 0)), none⟩])
  (.seq (.seq (.reg [
        ⟨some 5, .mv (.t 0), none⟩,
        ⟨some 6, .bin .lss (.t 5) (.c (.int .i64 2000)), none⟩,
        ⟨some 7, .mv (.t 6), none⟩,
        ⟨some 8, .mv (.t 0), some (7, false)⟩,
        ⟨some 9, .bin .gtr (.t 8) (.c (.int .i64 2399)), some (7, false)⟩,
        ⟨some 10, .pick (.t 7) (.c (.bool true)) (.t 9), none⟩,
        ⟨some 11, .mv (.t 10), none⟩,
        ⟨some 12, .mv (.t 1), some (11, false)⟩,
        ⟨some 13, .bin .lss (.t 12) (.c (.int .i64 1)), some (11, false)⟩,
        ⟨some 14, .pick (.t 11) (.c (.bool true)) (.t 13), none⟩,
        ⟨some 15, .mv (.t 14), none⟩,
        ⟨some 16, .mv (.t 1), some (15, false)⟩,
        ⟨some 17, .bin .gtr (.t 16) (.c (.int .i64 12)), some (15, false)⟩,
        ⟨some 18, .pick (.t 15) (.c (.bool true)) (.t 17), none⟩])
      (.cond (.t 18) (.seq (.reg [
            ⟨some 4, .mv (.c (.int .i64 0)), none⟩])
          .ret)
        .skip))
    (.seq (.seq (.reg [
          ⟨some 19, .mv (.t 1), none⟩,
          ⟨some 20, .bin .eql (.t 19) (.c (.int .i64 2)), none⟩])
        (.cond (.t 20) (.seq (.seq (.reg [
                ⟨some 21, .mv (.t 0), none⟩,
                ⟨some 22, .call n_billingref03_leap [((.t 21), false)] false, none⟩])
              (.cond (.t 22) (.seq (.reg [
                    ⟨some 4, .mv (.c (.int .i64 29)), none⟩])
                  .ret)
                .skip))
            (.seq (.reg [
                ⟨some 4, .mv (.c (.int .i64 28)), none⟩])
              .ret))
          .skip))
      (.seq (.seq (.reg [
            ⟨some 23, .mv (.t 1), none⟩,
            ⟨some 24, .bin .eql (.t 23) (.c (.int .i64 4)), none⟩,
            ⟨some 25, .mv (.t 24), none⟩,
            ⟨some 26, .mv (.t 1), some (25, false)⟩,
            ⟨some 27, .bin .eql (.t 26) (.c (.int .i64 6)), some (25, false)⟩,
            ⟨some 28, .pick (.t 25) (.c (.bool true)) (.t 27), none⟩,
            ⟨some 29, .mv (.t 28), none⟩,
            ⟨some 30, .mv (.t 1), some (29, false)⟩,
            ⟨some 31, .bin .eql (.t 30) (.c (.int .i64 9)), some (29, false)⟩,
            ⟨some 32, .pick (.t 29) (.c (.bool true)) (.t 31), none⟩,
            ⟨some 33, .mv (.t 32), none⟩,
            ⟨some 34, .mv (.t 1), some (33, false)⟩,
            ⟨some 35, .bin .eql (.t 34) (.c (.int .i64 11)), some (33, false)⟩,
            ⟨some 36, .pick (.t 33) (.c (.bool true)) (.t 35), none⟩])
          (.cond (.t 36) (.seq (.reg [
                ⟨some 4, .mv (.c (.int .i64 30)), none⟩])
              .ret)
            .skip))
        (.seq (.reg [
            ⟨some 4, .mv (.c (.int .i64 31)), none⟩])
          .ret))))), [.tmp 4]⟩

/- billing/billinglaw03.awake -/
def a_billinglaw03_awake : AF := ⟨106, (.seq (.reg [
    ⟨some 0, .mv (.c (.bool false)), none⟩])
  (.seq (.reg [
      ⟨some 16, .build [(.int .i64 0), (.int .i64 0), (.int .i64 0)] [(0, 1, (.c (.int .i64 2000))), (1, 1, (.c (.int .i64 3))), (2, 1, (.c (.int .i64 1)))], none⟩,
      ⟨some 17, .call n_calendar_Day [((.t 16), false)] false, none⟩,
      ⟨some 15, .mv (.t 17), none⟩,
      ⟨some 18, .ext 15 0, none⟩,
      ⟨some 19, .ext 15 1, none⟩,
      ⟨some 1, .mv (.t 18), none⟩,
      ⟨some 2, .mv (.t 19), none⟩])
    (.seq (.reg [
        ⟨some 21, .build [(.int .i64 0), (.int .i64 0), (.int .i64 0)] [(0, 1, (.c (.int .i64 2001))), (1, 1, (.c (.int .i64 1))), (2, 1, (.c (.int .i64 1)))], none⟩,
        ⟨some 22, .call n_calendar_Day [((.t 21), false)] false, none⟩,
        ⟨some 20, .mv (.t 22), none⟩,
        ⟨some 23, .ext 20 0, none⟩,
        ⟨some 24, .ext 20 1, none⟩,
        ⟨some 3, .mv (.t 23), none⟩,
        ⟨some 4, .mv (.t 24), none⟩])
      (.seq (.reg [
          ⟨some 26, .build [(.int .i64 0), (.int .i64 0), (.int .i64 0)] [(0, 1, (.c (.int .i64 2001))), (1, 1, (.c (.int .i64 2))), (2, 1, (.c (.int .i64 29)))], none⟩,
          ⟨some 27, .call n_calendar_Day [((.t 26), false)] false, none⟩,
          ⟨some 25, .mv (.t 27), none⟩,
          ⟨some 28, .ext 25 0, none⟩,
          ⟨some 29, .ext 25 1, none⟩,
          ⟨some 5, .mv (.t 28), none⟩,
          ⟨some 6, .mv (.t 29), none⟩])
        (.seq (.reg [
            ⟨some 30, .call n_calendar_Cycle [((.c (.int .i64 15)), false), ((.c (.int .i64 1209600)), false)] false, none⟩,
            ⟨some 7, .newbox [(.int .i64 0), (.int .i64 0)], none⟩,
            ⟨none, .st (.t 7) (.t 30) 2 false (some 7), none⟩])
          (.seq (.reg [
              ⟨some 31, .build [(.int .i64 0), (.int .i64 0)] [(0, 1, (.c (.int .i64 0))), (1, 1, (.c (.int .i64 2764800)))], none⟩,
              ⟨some 32, .call n_calendar_Cycles [((.c (.int .i64 1)), false), ((.t 31), false)] false, none⟩,
              ⟨none, .cm 32, none⟩,
              ⟨some 8, .mv (.t 32), none⟩,
              ⟨none, .cm 8, none⟩])
            (.seq (.reg [
                ⟨some 34, .call n_calendar_Parse [((.c (.str [50, 48, 48, 49, 45, 48, 49, 45, 48, 49])), false)] false, none⟩,
                ⟨some 33, .mv (.t 34), none⟩,
                ⟨some 35, .ext 33 0, none⟩,
                ⟨some 36, .ext 33 1, none⟩,
                ⟨some 9, .mv (.t 35), none⟩,
                ⟨some 10, .mv (.t 36), none⟩])
              (.seq (.reg [
                  ⟨some 38, .call n_calendar_Parse [((.c (.str [50, 48, 48, 49, 45, 49, 45, 48, 49])), false)] false, none⟩,
                  ⟨some 37, .mv (.t 38), none⟩,
                  ⟨some 39, .ext 37 0, none⟩,
                  ⟨some 40, .ext 37 1, none⟩,
                  ⟨some 11, .mv (.t 39), none⟩,
                  ⟨some 12, .mv (.t 40), none⟩])
                (.seq (.reg [
                    ⟨some 42, .call n_calendar_Parse [((.c (.str [50, 48, 48, 49, 45, 49, 51, 45, 48, 49])), false)] false, none⟩,
                    ⟨some 41, .mv (.t 42), none⟩,
                    ⟨some 43, .ext 41 0, none⟩,
                    ⟨some 44, .ext 41 1, none⟩,
                    ⟨some 13, .mv (.t 43), none⟩,
                    ⟨some 14, .mv (.t 44), none⟩])
                  (.seq (.seq (.reg [
                        ⟨some 45, .mv (.t 2), none⟩,
                        ⟨some 46, .bin .neq (.t 45) (.c (.int .i64 0)), none⟩,
                        ⟨some 47, .mv (.t 46), none⟩,
                        ⟨some 48, .mv (.t 4), some (47, false)⟩,
                        ⟨some 49, .bin .neq (.t 48) (.c (.int .i64 0)), some (47, false)⟩,
                        ⟨some 50, .pick (.t 47) (.c (.bool true)) (.t 49), none⟩,
                        ⟨some 51, .mv (.t 50), none⟩,
                        ⟨some 52, .mv (.t 6), some (51, false)⟩,
                        ⟨some 53, .bin .neq (.t 52) (.c (.int .i64 6)), some (51, false)⟩,
                        ⟨some 54, .pick (.t 51) (.c (.bool true)) (.t 53), none⟩,
                        ⟨some 55, .mv (.t 54), none⟩,
                        ⟨some 56, .mv (.t 10), some (55, false)⟩,
                        ⟨some 57, .bin .neq (.t 56) (.c (.int .i64 0)), some (55, false)⟩,
                        ⟨some 58, .pick (.t 55) (.c (.bool true)) (.t 57), none⟩,
                        ⟨some 59, .mv (.t 58), none⟩,
                        ⟨some 60, .mv (.t 12), some (59, false)⟩,
                        ⟨some 61, .bin .neq (.t 60) (.c (.int .i64 1)), some (59, false)⟩,
                        ⟨some 62, .pick (.t 59) (.c (.bool true)) (.t 61), none⟩,
                        ⟨some 63, .mv (.t 62), none⟩,
                        ⟨some 64, .mv (.t 14), some (63, false)⟩,
                        ⟨some 65, .bin .neq (.t 64) (.c (.int .i64 6)), some (63, false)⟩,
                        ⟨some 66, .pick (.t 63) (.c (.bool true)) (.t 65), none⟩,
                        ⟨some 67, .mv (.t 66), none⟩,
                        ⟨some 68, .al 8, some (67, false)⟩,
                        ⟨some 69, .len false (.t 68) (some 8), some (67, false)⟩,
                        ⟨some 70, .bin .neq (.t 69) (.c (.int .i64 2)), some (67, false)⟩,
                        ⟨some 71, .pick (.t 67) (.c (.bool true)) (.t 70), none⟩])
                      (.cond (.t 71) (.seq (.reg [
                            ⟨some 0, .mv (.c (.bool false)), none⟩])
                          .ret)
                        .skip))
                    (.seq (.reg [
                        ⟨some 72, .mv (.t 1), none⟩,
                        ⟨some 73, .bin .eql (.t 72) (.c (.int .i64 60)), none⟩,
                        ⟨some 74, .mv (.t 73), none⟩,
                        ⟨some 75, .mv (.t 3), some (74, true)⟩,
                        ⟨some 76, .bin .eql (.t 75) (.c (.int .i64 366)), some (74, true)⟩,
                        ⟨some 77, .pick (.t 74) (.t 76) (.c (.bool false)), none⟩,
                        ⟨some 78, .mv (.t 77), none⟩,
                        ⟨some 79, .mv (.t 9), some (78, true)⟩,
                        ⟨some 80, .bin .eql (.t 79) (.c (.int .i64 366)), some (78, true)⟩,
                        ⟨some 81, .pick (.t 78) (.t 80) (.c (.bool false)), none⟩,
                        ⟨some 82, .mv (.t 81), none⟩,
                        ⟨some 83, .call n_calendar_Weekday [((.c (.int .i64 0)), false)] false, some (82, true)⟩,
                        ⟨some 84, .bin .eql (.t 83) (.c (.int .i64 5)), some (82, true)⟩,
                        ⟨some 85, .pick (.t 82) (.t 84) (.c (.bool false)), none⟩,
                        ⟨some 86, .mv (.t 85), none⟩,
                        ⟨some 87, .call n_calendar_Weekday [((.c (.int .i64 2)), false)] false, some (86, true)⟩,
                        ⟨some 88, .bin .eql (.t 87) (.c (.int .i64 0)), some (86, true)⟩,
                        ⟨some 89, .pick (.t 86) (.t 88) (.c (.bool false)), none⟩,
                        ⟨some 90, .mv (.t 89), none⟩,
                        ⟨some 91, .ld (.t 7) (some 2) false (some 7), some (90, true)⟩,
                        ⟨some 92, .build [(.int .i64 0), (.int .i64 0)] [(0, 1, (.c (.int .i64 1209600))), (1, 1, (.c (.int .i64 3888000)))], some (90, true)⟩,
                        ⟨some 93, .eqs false [0, 0] (.t 91) (.t 92), some (90, true)⟩,
                        ⟨some 94, .pick (.t 90) (.t 93) (.c (.bool false)), none⟩,
                        ⟨some 95, .mv (.t 94), none⟩,
                        ⟨some 96, .al 8, some (95, true)⟩,
                        ⟨some 97, .ia (.t 96) (.c (.int .i64 1)) 2 none (some 8), some (95, true)⟩,
                        ⟨some 98, .ld (.t 97) (some 2) false none, some (95, true)⟩,
                        ⟨some 99, .build [(.int .i64 0), (.int .i64 0)] [(0, 1, (.c (.int .i64 2678400))), (1, 1, (.c (.int .i64 5184000)))], some (95, true)⟩,
                        ⟨some 100, .eqs false [0, 0] (.t 98) (.t 99), some (95, true)⟩,
                        ⟨some 101, .pick (.t 95) (.t 100) (.c (.bool false)), none⟩,
                        ⟨some 102, .mv (.t 101), none⟩,
                        ⟨some 103, .call n_calendar_Print [((.c (.int .i64 366)), false)] false, some (102, true)⟩,
                        ⟨some 104, .bin .eql (.t 103) (.c (.str [50, 48, 48, 49, 45, 48, 49, 45, 48, 49])), some (102, true)⟩,
                        ⟨some 105, .pick (.t 102) (.t 104) (.c (.bool false)), none⟩,
                        ⟨some 0, .mv (.t 105), none⟩])
                      .ret))))))))))), [.tmp 0]⟩

/- billing/calendar.Date -/
def calendar_Date_l1b : AC := (.seq (.seq (.reg [
      ⟨some 15, .fa (.t 3) 0 (some 3), none⟩,
      ⟨some 16, .ld (.t 15) none false (some 3), none⟩,
      ⟨some 17, .bin .add (.t 16) (.c (.int .i64 1)), none⟩,
      ⟨some 18, .call n_calendar_before [((.t 17), false)] false, none⟩,
      ⟨some 19, .mv (.t 0), none⟩,
      ⟨some 20, .bin .leq (.t 18) (.t 19), none⟩])
    (.cond (.t 20) .skip
      (.exit 0)))
  (.blk 1 (.reg [
      ⟨some 21, .fa (.t 3) 0 (some 3), none⟩,
      ⟨some 22, .ld (.t 21) none false (some 3), none⟩,
      ⟨some 23, .bin .add (.t 22) (.c (.int .i64 1)), none⟩,
      ⟨some 24, .fa (.t 3) 0 (some 3), none⟩,
      ⟨none, .st (.t 24) (.t 23) 1 false (some 3), none⟩])))
def calendar_Date_l1 : AC := .pre [false, false, false, false, false, false, false, false, false, false, false, false, false, false, false, true, true, true, true, true, true, true, true, true, true] calendar_Date_l1b
@[go_sem] theorem calendar_Date_l1_go {M : Mach} {k : List It} {s : St} {Q : Ex → St → Prop} : Run M (.c (.loop calendar_Date_l1) :: k) .norm s Q ↔ Run M (.c calendar_Date_l1b :: .lp calendar_Date_l1 :: k) .norm { s with t := killM [false, false, false, false, false, false, false, false, false, false, false, false, false, false, false, true, true, true, true, true, true, true, true, true, true] [false, false, false, false, false, false, false, false, false, false, false, false, false, false, false, true, true, true, true, true, true, true, true, true, true] s.t } Q := run_loop_pre
@[go_sem] theorem calendar_Date_l1_lp {M : Mach} {k : List It} {s : St} {Q : Ex → St → Prop} : Run M (.lp calendar_Date_l1 :: k) .norm s Q ↔ Run M (.c calendar_Date_l1b :: .lp calendar_Date_l1 :: k) .norm { s with t := killM [false, false, false, false, false, false, false, false, false, false, false, false, false, false, false, true, true, true, true, true, true, true, true, true, true] [false, false, false, false, false, false, false, false, false, false, false, false, false, false, false, true, true, true, true, true, true, true, true, true, true] s.t } Q := run_loop_pre
def calendar_Date_l2b : AC := (.seq (.seq (.reg [
      ⟨some 30, .mv (.t 0), none⟩,
      ⟨some 31, .fa (.t 3) 0 (some 3), none⟩,
      ⟨some 32, .ld (.t 31) none false (some 3), none⟩,
      ⟨some 33, .fa (.t 3) 1 (some 3), none⟩,
      ⟨some 34, .ld (.t 33) none false (some 3), none⟩,
      ⟨some 35, .call n_calendar_days [((.t 32), false), ((.t 34), false)] false, none⟩,
      ⟨some 36, .bin .geq (.t 30) (.t 35), none⟩])
    (.cond (.t 36) .skip
      (.exit 2)))
  (.blk 3 (.seq (.reg [
        ⟨some 37, .mv (.t 0), none⟩,
        ⟨some 38, .fa (.t 3) 0 (some 3), none⟩,
        ⟨some 39, .ld (.t 38) none false (some 3), none⟩,
        ⟨some 40, .fa (.t 3) 1 (some 3), none⟩,
        ⟨some 41, .ld (.t 40) none false (some 3), none⟩,
        ⟨some 42, .call n_calendar_days [((.t 39), false), ((.t 41), false)] false, none⟩,
        ⟨some 43, .bin .sub (.t 37) (.t 42), none⟩,
        ⟨some 0, .mv (.t 43), none⟩])
      (.reg [
        ⟨some 44, .fa (.t 3) 1 (some 3), none⟩,
        ⟨some 45, .ld (.t 44) none false (some 3), none⟩,
        ⟨some 46, .bin .add (.t 45) (.c (.int .i64 1)), none⟩,
        ⟨some 47, .fa (.t 3) 1 (some 3), none⟩,
        ⟨none, .st (.t 47) (.t 46) 1 false (some 3), none⟩]))))
def calendar_Date_l2 : AC := .pre [false, false, false, false, false, false, false, false, false, false, false, false, false, false, false, false, false, false, false, false, false, false, false, false, false, false, false, false, false, false, true, true, true, true, true, true, true, true, true, true, true, true, true, true, true, true, true, true] calendar_Date_l2b
@[go_sem] theorem calendar_Date_l2_go {M : Mach} {k : List It} {s : St} {Q : Ex → St → Prop} : Run M (.c (.loop calendar_Date_l2) :: k) .norm s Q ↔ Run M (.c calendar_Date_l2b :: .lp calendar_Date_l2 :: k) .norm { s with t := killM [false, false, false, false, false, false, false, false, false, false, false, false, false, false, false, false, false, false, false, false, false, false, false, false, false, false, false, false, false, false, true, true, true, true, true, true, true, true, true, true, true, true, true, true, true, true, true, true] [false, false, false, false, false, false, false, false, false, false, false, false, false, false, false, false, false, false, false, false, false, false, false, false, false, false, false, false, false, false, true, true, true, true, true, true, true, true, true, true, true, true, true, true, true, true, true, true] s.t } Q := run_loop_pre
@[go_sem] theorem calendar_Date_l2_lp {M : Mach} {k : List It} {s : St} {Q : Ex → St → Prop} : Run M (.lp calendar_Date_l2 :: k) .norm s Q ↔ Run M (.c calendar_Date_l2b :: .lp calendar_Date_l2 :: k) .norm { s with t := killM [false, false, false, false, false, false, false, false, false, false, false, false, false, false, false, false, false, false, false, false, false, false, false, false, false, false, false, false, false, false, true, true, true, true, true, true, true, true, true, true, true, true, true, true, true, true, true, true] [false, false, false, false, false, false, false, false, false, false, false, false, false, false, false, false, false, false, false, false, false, false, false, false, false, false, false, false, false, false, true, true, true, true, true, true, true, true, true, true, true, true, true, true, true, true, true, true] s.t } Q := run_loop_pre
def a_calendar_Date : AF := ⟨52, (.seq (.reg [
    ⟨some 2, .newbox [(.int .i64 0), (.int .i64 0), (.int .i64 0)], none⟩])
  (.seq (.seq (.reg [
        ⟨some 4, .mv (.t 0), none⟩,
        ⟨some 5, .bin .lss (.t 4) (.c (.int .i64 0)), none⟩,
        ⟨some 6, .mv (.t 5), none⟩,
        ⟨some 7, .mv (.t 0), some (6, false)⟩,
        ⟨some 8, .bin .geq (.t 7) (.c (.int .i64 146097)), some (6, false)⟩,
        ⟨some 9, .pick (.t 6) (.c (.bool true)) (.t 8), none⟩])
      (.cond (.t 9) (.seq (.reg [
            ⟨some 10, .build [(.int .i64 0), (.int .i64 0), (.int .i64 0)] [], none⟩,
            ⟨none, .st (.t 2) (.t 10) 3 false (some 2), none⟩])
          .ret)
        .skip))
    (.seq (.reg [
        ⟨some 11, .mv (.t 0), none⟩,
        ⟨some 12, .bin .quo (.t 11) (.c (.int .i64 366)), none⟩,
        ⟨some 13, .bin .add (.c (.int .i64 2000)) (.t 12), none⟩,
        ⟨some 14, .build [(.int .i64 0), (.int .i64 0), (.int .i64 0)] [(0, 1, (.t 13)), (1, 1, (.c (.int .i64 1)))], none⟩,
        ⟨some 3, .newbox [(.int .i64 0), (.int .i64 0), (.int .i64 0)], none⟩,
        ⟨none, .st (.t 3) (.t 14) 3 false (some 3), none⟩])
      (.seq (.blk 0 (.pre [false, false, false, false, true, true, true, true, true, true, true, true, true, true, true] (.loop calendar_Date_l1)))
        (.pre [false, false, false, false, true, true, true, true, true, true, true, true, true, true, true, true, true, true, true, true, true, true, true, true, true] (.seq (.reg [
            ⟨some 25, .mv (.t 0), none⟩,
            ⟨some 26, .fa (.t 3) 0 (some 3), none⟩,
            ⟨some 27, .ld (.t 26) none false (some 3), none⟩,
            ⟨some 28, .call n_calendar_before [((.t 27), false)] false, none⟩,
            ⟨some 29, .bin .sub (.t 25) (.t 28), none⟩,
            ⟨some 0, .mv (.t 29), none⟩])
          (.seq (.blk 2 (.pre [false, false, false, false, false, false, false, false, false, false, false, false, false, false, false, false, false, false, false, false, false, false, false, false, false, true, true, true, true, true] (.loop calendar_Date_l2)))
            (.pre [false, false, false, false, false, false, false, false, false, false, false, false, false, false, false, false, false, false, false, false, false, false, false, false, false, true, true, true, true, true, true, true, true, true, true, true, true, true, true, true, true, true, true, true, true, true, true, true] (.seq (.reg [
                ⟨some 48, .mv (.t 0), none⟩,
                ⟨some 49, .bin .add (.t 48) (.c (.int .i64 1)), none⟩,
                ⟨some 50, .fa (.t 3) 2 (some 3), none⟩,
                ⟨none, .st (.t 50) (.t 49) 1 false (some 3), none⟩])
              (.seq (.reg [
                  ⟨some 51, .ld (.t 3) (some 3) false (some 3), none⟩,
                  ⟨none, .st (.t 2) (.t 51) 3 false (some 2), none⟩])
                .ret)))))))))), [.cell 2 (some 3)]⟩

/- billing/billingref03.Date -/
def billingref03_Date_l1b : AC := (.seq (.seq (.reg [
      ⟨some 14, .mv (.t 5), none⟩,
      ⟨some 15, .mv (.t 3), none⟩,
      ⟨some 16, .call n_billingref03_year [((.t 15), false)] false, none⟩,
      ⟨some 17, .bin .geq (.t 14) (.t 16), none⟩])
    (.cond (.t 17) .skip
      (.exit 0)))
  (.blk 1 (.seq (.reg [
        ⟨some 18, .mv (.t 5), none⟩,
        ⟨some 19, .mv (.t 3), none⟩,
        ⟨some 20, .call n_billingref03_year [((.t 19), false)] false, none⟩,
        ⟨some 21, .bin .sub (.t 18) (.t 20), none⟩,
        ⟨some 5, .mv (.t 21), none⟩])
      (.reg [
        ⟨some 22, .mv (.t 3), none⟩,
        ⟨some 23, .bin .add (.t 22) (.c (.int .i64 1)), none⟩,
        ⟨some 3, .mv (.t 23), none⟩]))))
def billingref03_Date_l1 : AC := .pre [false, false, false, false, false, false, false, false, false, false, false, false, false, false, true, true, true, true, true, true, true, true, true, true] billingref03_Date_l1b
@[go_sem] theorem billingref03_Date_l1_go {M : Mach} {k : List It} {s : St} {Q : Ex → St → Prop} : Run M (.c (.loop billingref03_Date_l1) :: k) .norm s Q ↔ Run M (.c billingref03_Date_l1b :: .lp billingref03_Date_l1 :: k) .norm { s with t := killM [false, false, false, false, false, false, false, false, false, false, false, false, false, false, true, true, true, true, true, true, true, true, true, true] [false, false, false, false, false, false, false, false, false, false, false, false, false, false, true, true, true, true, true, true, true, true, true, true] s.t } Q := run_loop_pre
@[go_sem] theorem billingref03_Date_l1_lp {M : Mach} {k : List It} {s : St} {Q : Ex → St → Prop} : Run M (.lp billingref03_Date_l1 :: k) .norm s Q ↔ Run M (.c billingref03_Date_l1b :: .lp billingref03_Date_l1 :: k) .norm { s with t := killM [false, false, false, false, false, false, false, false, false, false, false, false, false, false, true, true, true, true, true, true, true, true, true, true] [false, false, false, false, false, false, false, false, false, false, false, false, false, false, true, true, true, true, true, true, true, true, true, true] s.t } Q := run_loop_pre
def billingref03_Date_l2b : AC := (.seq (.seq (.reg [
      ⟨some 24, .mv (.t 5), none⟩,
      ⟨some 25, .mv (.t 3), none⟩,
      ⟨some 26, .mv (.t 4), none⟩,
      ⟨some 27, .call n_billingref03_Length [((.t 25), false), ((.t 26), false)] false, none⟩,
      ⟨some 28, .bin .geq (.t 24) (.t 27), none⟩])
    (.cond (.t 28) .skip
      (.exit 2)))
  (.blk 3 (.seq (.reg [
        ⟨some 29, .mv (.t 5), none⟩,
        ⟨some 30, .mv (.t 3), none⟩,
        ⟨some 31, .mv (.t 4), none⟩,
        ⟨some 32, .call n_billingref03_Length [((.t 30), false), ((.t 31), false)] false, none⟩,
        ⟨some 33, .bin .sub (.t 29) (.t 32), none⟩,
        ⟨some 5, .mv (.t 33), none⟩])
      (.reg [
        ⟨some 34, .mv (.t 4), none⟩,
        ⟨some 35, .bin .add (.t 34) (.c (.int .i64 1)), none⟩,
        ⟨some 4, .mv (.t 35), none⟩]))))
def billingref03_Date_l2 : AC := .pre [false, false, false, false, false, false, false, false, false, false, false, false, false, false, false, false, false, false, false, false, false, false, false, false, true, true, true, true, true, true, true, true, true, true, true, true] billingref03_Date_l2b
@[go_sem] theorem billingref03_Date_l2_go {M : Mach} {k : List It} {s : St} {Q : Ex → St → Prop} : Run M (.c (.loop billingref03_Date_l2) :: k) .norm s Q ↔ Run M (.c billingref03_Date_l2b :: .lp billingref03_Date_l2 :: k) .norm { s with t := killM [false, false, false, false, false, false, false, false, false, false, false, false, false, false, false, false, false, false, false, false, false, false, false, false, true, true, true, true, true, true, true, true, true, true, true, true] [false, false, false, false, false, false, false, false, false, false, false, false, false, false, false, false, false, false, false, false, false, false, false, false, true, true, true, true, true, true, true, true, true, true, true, true] s.t } Q := run_loop_pre
@[go_sem] theorem billingref03_Date_l2_lp {M : Mach} {k : List It} {s : St} {Q : Ex → St → Prop} : Run M (.lp billingref03_Date_l2 :: k) .norm s Q ↔ Run M (.c billingref03_Date_l2b :: .lp billingref03_Date_l2 :: k) .norm { s with t := killM [false, false, false, false, false, false, false, false, false, false, false, false, false, false, false, false, false, false, false, false, false, false, false, false, true, true, true, true, true, true, true, true, true, true, true, true] [false, false, false, false, false, false, false, false, false, false, false, false, false, false, false, false, false, false, false, false, false, false, false, false, true, true, true, true, true, true, true, true, true, true, true, true] s.t } Q := run_loop_pre
def a_billingref03_Date : AF := ⟨41, (.seq (.reg [
    ⟨some 2, .newbox [(.int .i64 0), (.int .i64 0), (.int .i64 0)], none⟩])
  (.seq (.seq (.reg [
        ⟨some 6, .mv (.t 0), none⟩,
        ⟨some 7, .bin .lss (.t 6) (.c (.int .i64 0)), none⟩,
        ⟨some 8, .mv (.t 7), none⟩,
        ⟨some 9, .mv (.t 0), some (8, false)⟩,
        ⟨some 10, .bin .geq (.t 9) (.c (.int .i64 146097)), some (8, false)⟩,
        ⟨some 11, .pick (.t 8) (.c (.bool true)) (.t 10), none⟩])
      (.cond (.t 11) (.seq (.reg [
            ⟨some 12, .build [(.int .i64 0), (.int .i64 0), (.int .i64 0)] [], none⟩,
            ⟨none, .st (.t 2) (.t 12) 3 false (some 2), none⟩])
          .ret)
        .skip))
    (.seq (.reg [
        ⟨some 13, .mv (.t 0), none⟩,
        ⟨some 3, .mv (.c (.int .i64 2000)), none⟩,
        ⟨some 4, .mv (.c (.int .i64 1)), none⟩,
        ⟨some 5, .mv (.t 13), none⟩])
      (.seq (.blk 0 (.pre [true, false, false, false, false, false, true, true, true, true, true, true, true, true] (.loop billingref03_Date_l1)))
        (.pre [true, false, false, false, false, false, true, true, true, true, true, true, true, true, true, true, true, true, true, true, true, true, true, true] (.seq (.blk 2 (.loop billingref03_Date_l2))
          (.pre [false, false, false, false, false, false, false, false, false, false, false, false, false, false, false, false, false, false, false, false, false, false, false, false, true, true, true, true, true, true, true, true, true, true, true, true] (.seq (.reg [
              ⟨some 36, .mv (.t 3), none⟩,
              ⟨some 37, .mv (.t 4), none⟩,
              ⟨some 38, .mv (.t 5), none⟩,
              ⟨some 39, .bin .add (.t 38) (.c (.int .i64 1)), none⟩,
              ⟨some 40, .build [(.int .i64 0), (.int .i64 0), (.int .i64 0)] [(0, 1, (.t 36)), (1, 1, (.t 37)), (2, 1, (.t 39))], none⟩,
              ⟨none, .st (.t 2) (.t 40) 3 false (some 2), none⟩])
            .ret)))))))), [.cell 2 (some 3)]⟩

/- billing/calendar.Weekday -/
def a_calendar_Weekday : AF := ⟨12, (.seq (.reg [
    ⟨some 2, .mv (.c (.int .i64 0)), none⟩])
  (.seq (.seq (.reg [
        ⟨some 3, .mv (.t 0), none⟩,
        ⟨some 4, .bin .lss (.t 3) (.c (.int .i64 0)), none⟩,
        ⟨some 5, .mv (.t 4), none⟩,
        ⟨some 6, .mv (.t 0), some (5, false)⟩,
        ⟨some 7, .bin .geq (.t 6) (.c (.int .i64 146097)), some (5, false)⟩,
        ⟨some 8, .pick (.t 5) (.c (.bool true)) (.t 7), none⟩])
      (.cond (.t 8) (.seq (.reg [
            ⟨some 2, .mv (.c (.int .i64 (-1))), none⟩])
          .ret)
        .skip))
    (.seq (.reg [
        ⟨some 9, .mv (.t 0), none⟩,
        ⟨some 10, .bin .add (.t 9) (.c (.int .i64 5)), none⟩,
        ⟨some 11, .bin .rem (.t 10) (.c (.int .i64 7)), none⟩,
        ⟨some 2, .mv (.t 11), none⟩])
      .ret))), [.tmp 2]⟩

/- billing/billingref03.Weekday -/
def a_billingref03_Weekday : AF := ⟨12, (.seq (.reg [
    ⟨some 2, .mv (.c (.int .i64 0)), none⟩])
  (.seq (.seq (.reg [
        ⟨some 3, .mv (.t 0), none⟩,
        ⟨some 4, .bin .lss (.t 3) (.c (.int .i64 0)), none⟩,
        ⟨some 5, .mv (.t 4), none⟩,
        ⟨some 6, .mv (.t 0), some (5, false)⟩,
        ⟨some 7, .bin .geq (.t 6) (.c (.int .i64 146097)), some (5, false)⟩,
        ⟨some 8, .pick (.t 5) (.c (.bool true)) (.t 7), none⟩])
      (.cond (.t 8) (.seq (.reg [
            ⟨some 2, .mv (.c (.int .i64 (-1))), none⟩])
          .ret)
        .skip))
    (.seq (.reg [
        ⟨some 9, .mv (.t 0), none⟩,
        ⟨some 10, .bin .add (.t 9) (.c (.int .i64 5)), none⟩,
        ⟨some 11, .bin .rem (.t 10) (.c (.int .i64 7)), none⟩,
        ⟨some 2, .mv (.t 11), none⟩])
      .ret))), [.tmp 2]⟩

/- billing/calendar.Parse -/
def calendar_Parse_l1b : AC := (.seq (.reg [
    ⟨some 13, .bin .lss (.t 12) (.t 11), none⟩])
  (.seq (.cond (.t 13) .skip
      (.exit 0))
    (.seq (.blk 1 (.seq (.reg [
            ⟨some 14, .mv (.t 12), none⟩,
            ⟨some 6, .mv (.t 14), none⟩])
          (.blk 2 (.seq (.reg [
                ⟨some 16, .mv (.t 6), none⟩,
                ⟨some 17, .idx (.c (.str [48, 48, 48, 48, 45, 48, 48, 45, 48, 48])) (.t 16) none 1 false, none⟩,
                ⟨some 18, .bin .eql (.t 17) (.c (.int .u8 45)), none⟩,
                ⟨some 19, .mv (.t 18), none⟩,
                ⟨some 20, .mv (.t 0), some (19, true)⟩,
                ⟨some 21, .mv (.t 6), some (19, true)⟩,
                ⟨some 22, .idx (.t 20) (.t 21) none 1 false, some (19, true)⟩,
                ⟨some 23, .bin .eql (.t 22) (.c (.int .u8 45)), some (19, true)⟩,
                ⟨some 24, .pick (.t 19) (.t 23) (.c (.bool false)), none⟩,
                ⟨some 15, .mv (.t 24), none⟩])
              (.cond (.t 15) (.reg [
                  ⟨some 25, .mv (.t 5), none⟩,
                  ⟨some 26, .bin .add (.t 25) (.c (.int .i64 1)), none⟩,
                  ⟨some 5, .mv (.t 26), none⟩])
                (.seq (.reg [
                    ⟨some 28, .mv (.t 6), none⟩,
                    ⟨some 29, .idx (.c (.str [48, 48, 48, 48, 45, 48, 48, 45, 48, 48])) (.t 28) none 1 false, none⟩,
                    ⟨some 30, .bin .eql (.t 29) (.c (.int .u8 48)), none⟩,
                    ⟨some 31, .mv (.t 30), none⟩,
                    ⟨some 32, .mv (.t 0), some (31, true)⟩,
                    ⟨some 33, .mv (.t 6), some (31, true)⟩,
                    ⟨some 34, .idx (.t 32) (.t 33) none 1 false, some (31, true)⟩,
                    ⟨some 35, .bin .geq (.t 34) (.c (.int .u8 48)), some (31, true)⟩,
                    ⟨some 36, .pick (.t 31) (.t 35) (.c (.bool false)), none⟩,
                    ⟨some 37, .mv (.t 36), none⟩,
                    ⟨some 38, .mv (.t 0), some (37, true)⟩,
                    ⟨some 39, .mv (.t 6), some (37, true)⟩,
                    ⟨some 40, .idx (.t 38) (.t 39) none 1 false, some (37, true)⟩,
                    ⟨some 41, .bin .leq (.t 40) (.c (.int .u8 57)), some (37, true)⟩,
                    ⟨some 42, .pick (.t 37) (.t 41) (.c (.bool false)), none⟩,
                    ⟨some 27, .mv (.t 42), none⟩])
                  (.cond (.t 27) (.dreg [
                      ⟨some 43, .cp (.t 5), none⟩,
                      ⟨some 44, .cp (.t 5), none⟩,
                      ⟨some 45, .ia (.t 4) (.t 44) 1 (some 3) (some 4), none⟩,
                      ⟨some 46, .ld (.t 45) none false (some 4), none⟩,
                      ⟨some 47, .bin .mul (.c (.int .i64 10)) (.t 46), none⟩,
                      ⟨some 48, .cp (.t 0), none⟩,
                      ⟨some 49, .cp (.t 6), none⟩,
                      ⟨some 50, .idx (.t 48) (.t 49) none 1 false, none⟩,
                      ⟨some 51, .bin .sub (.t 50) (.c (.int .u8 48)), none⟩,
                      ⟨some 52, .cvi .i64 (.t 51), none⟩,
                      ⟨some 53, .bin .add (.t 47) (.t 52), none⟩,
                      ⟨some 54, .ia (.t 4) (.t 43) 1 (some 3) (some 4), none⟩,
                      ⟨none, .st (.t 54) (.t 53) 1 false (some 4), none⟩])
                    (.seq (.reg [
                        ⟨some 2, .mv (.c (.int .i64 0)), none⟩,
                        ⟨some 3, .mv (.c (.int .i64 1)), none⟩])
                      .ret))))))))
      (.reg [
        ⟨some 55, .bin .add (.t 12) (.c (.int .i64 1)), none⟩,
        ⟨some 12, .mv (.t 55), none⟩]))))
def calendar_Parse_l1 : AC := .pre [false, false, true, true, false, false, true, false, false, false, false, false, false, true, true, true, true, true, true, true, true, true, true, true, true, true, true, true, true, true, true, true, true, true, true, true, true, true, true, true, true, true, true, true, true, true, true, true, true, true, true, true, true, true, true, true] calendar_Parse_l1b
@[go_sem] theorem calendar_Parse_l1_go {M : Mach} {k : List It} {s : St} {Q : Ex → St → Prop} : Run M (.c (.loop calendar_Parse_l1) :: k) .norm s Q ↔ Run M (.c calendar_Parse_l1b :: .lp calendar_Parse_l1 :: k) .norm { s with t := killM [false, false, true, true, false, false, true, false, false, false, false, false, false, true, true, true, true, true, true, true, true, true, true, true, true, true, true, true, true, true, true, true, true, true, true, true, true, true, true, true, true, true, true, true, true, true, true, true, true, true, true, true, true, true, true, true] [false, false, true, true, false, false, true, false, false, false, false, false, false, true, true, true, true, true, true, true, true, true, true, true, true, true, true, true, true, true, true, true, true, true, true, true, true, true, true, true, true, true, true, true, true, true, true, true, true, true, true, true, true, true, true, true] s.t } Q := run_loop_pre
@[go_sem] theorem calendar_Parse_l1_lp {M : Mach} {k : List It} {s : St} {Q : Ex → St → Prop} : Run M (.lp calendar_Parse_l1 :: k) .norm s Q ↔ Run M (.c calendar_Parse_l1b :: .lp calendar_Parse_l1 :: k) .norm { s with t := killM [false, false, true, true, false, false, true, false, false, false, false, false, false, true, true, true, true, true, true, true, true, true, true, true, true, true, true, true, true, true, true, true, true, true, true, true, true, true, true, true, true, true, true, true, true, true, true, true, true, true, true, true, true, true, true, true] [false, false, true, true, false, false, true, false, false, false, false, false, false, true, true, true, true, true, true, true, true, true, true, true, true, true, true, true, true, true, true, true, true, true, true, true, true, true, true, true, true, true, true, true, true, true, true, true, true, true, true, true, true, true, true, true] s.t } Q := run_loop_pre
def a_calendar_Parse : AF := ⟨66, (.seq (.reg [
    ⟨some 2, .mv (.c (.int .i64 0)), none⟩,
    ⟨some 3, .mv (.c (.int .i64 0)), none⟩])
  (.seq (.seq (.reg [
        ⟨some 7, .mv (.t 0), none⟩,
        ⟨some 8, .len true (.t 7) none, none⟩,
        ⟨some 9, .bin .neq (.t 8) (.c (.int .i64 10)), none⟩])
      (.cond (.t 9) (.seq (.reg [
            ⟨some 2, .mv (.c (.int .i64 0)), none⟩,
            ⟨some 3, .mv (.c (.int .i64 1)), none⟩])
          .ret)
        .skip))
    (.seq (.reg [
        ⟨some 4, .newbox [(.int .i64 0), (.int .i64 0), (.int .i64 0)], none⟩])
      (.seq (.reg [
          ⟨some 5, .mv (.c (.int .i64 0)), none⟩])
        (.seq (.seq (.reg [
              ⟨some 10, .mv (.t 0), none⟩,
              ⟨some 11, .len true (.t 10) none, none⟩,
              ⟨some 12, .mv (.c (.int .i64 0)), none⟩])
            (.blk 0 (.pre [false, false, false, false, false, false, false, true, true, true, true] (.loop calendar_Parse_l1))))
          (.pre [true, false, true, true, false, true, true, true, true, true, true, true, true, true, true, true, true, true, true, true, true, true, true, true, true, true, true, true, true, true, true, true, true, true, true, true, true, true, true, true, true, true, true, true, true, true, true, true, true, true, true, true, true, true, true, true] (.seq (.reg [
              ⟨some 56, .ia (.t 4) (.c (.int .i64 0)) 1 (some 3) (some 4), none⟩,
              ⟨some 57, .ld (.t 56) none false (some 4), none⟩,
              ⟨some 58, .ia (.t 4) (.c (.int .i64 1)) 1 (some 3) (some 4), none⟩,
              ⟨some 59, .ld (.t 58) none false (some 4), none⟩,
              ⟨some 60, .ia (.t 4) (.c (.int .i64 2)) 1 (some 3) (some 4), none⟩,
              ⟨some 61, .ld (.t 60) none false (some 4), none⟩,
              ⟨some 62, .build [(.int .i64 0), (.int .i64 0), (.int .i64 0)] [(0, 1, (.t 57)), (1, 1, (.t 59)), (2, 1, (.t 61))], none⟩,
              ⟨some 63, .call n_calendar_Day [((.t 62), false)] false, none⟩,
              ⟨some 64, .ext 63 0, none⟩,
              ⟨some 65, .ext 63 1, none⟩,
              ⟨some 2, .mv (.t 64), none⟩,
              ⟨some 3, .mv (.t 65), none⟩])
            .ret))))))), [.tmp 2, .tmp 3]⟩

/- billing/calendar.Print -/
def a_calendar_Print : AF := ⟨25, (.seq (.reg [
    ⟨some 2, .mv (.c (.str [])), none⟩])
  (.seq (.seq (.reg [
        ⟨some 4, .mv (.t 0), none⟩,
        ⟨some 5, .bin .lss (.t 4) (.c (.int .i64 0)), none⟩,
        ⟨some 6, .mv (.t 5), none⟩,
        ⟨some 7, .mv (.t 0), some (6, false)⟩,
        ⟨some 8, .bin .geq (.t 7) (.c (.int .i64 146097)), some (6, false)⟩,
        ⟨some 9, .pick (.t 6) (.c (.bool true)) (.t 8), none⟩])
      (.cond (.t 9) (.seq (.reg [
            ⟨some 2, .mv (.c (.str [])), none⟩])
          .ret)
        .skip))
    (.seq (.reg [
        ⟨some 10, .mv (.t 0), none⟩,
        ⟨some 11, .call n_calendar_Date [((.t 10), false)] false, none⟩,
        ⟨some 3, .newbox [(.int .i64 0), (.int .i64 0), (.int .i64 0)], none⟩,
        ⟨none, .st (.t 3) (.t 11) 3 false (some 3), none⟩])
      (.seq (.dreg [
          ⟨some 12, .fa (.t 3) 0 (some 3), none⟩,
          ⟨some 13, .ld (.t 12) none false (some 3), none⟩,
          ⟨some 14, .call n_calendar_digits [((.t 13), false), ((.c (.int .i64 4)), false)] false, none⟩,
          ⟨some 15, .bin .add (.t 14) (.c (.str [45])), none⟩,
          ⟨some 16, .fa (.t 3) 1 (some 3), none⟩,
          ⟨some 17, .ld (.t 16) none false (some 3), none⟩,
          ⟨some 18, .call n_calendar_digits [((.t 17), false), ((.c (.int .i64 2)), false)] false, none⟩,
          ⟨some 19, .bin .add (.t 15) (.t 18), none⟩,
          ⟨some 20, .bin .add (.t 19) (.c (.str [45])), none⟩,
          ⟨some 21, .fa (.t 3) 2 (some 3), none⟩,
          ⟨some 22, .ld (.t 21) none false (some 3), none⟩,
          ⟨some 23, .call n_calendar_digits [((.t 22), false), ((.c (.int .i64 2)), false)] false, none⟩,
          ⟨some 24, .bin .add (.t 20) (.t 23), none⟩,
          ⟨some 2, .cp (.t 24), none⟩])
        .ret)))), [.tmp 2]⟩

/- billing/calendar.Cycle -/
def a_calendar_Cycle : AF := ⟨25, (.seq (.reg [
    ⟨some 4, .newbox [(.int .i64 0), (.int .i64 0)], none⟩])
  (.seq (.seq (.reg [
        ⟨some 5, .mv (.t 0), none⟩,
        ⟨some 6, .bin .lss (.t 5) (.c (.int .i64 1)), none⟩,
        ⟨some 7, .mv (.t 6), none⟩,
        ⟨some 8, .mv (.t 0), some (7, false)⟩,
        ⟨some 9, .bin .gtr (.t 8) (.c (.int .i64 28)), some (7, false)⟩,
        ⟨some 10, .pick (.t 7) (.c (.bool true)) (.t 9), none⟩,
        ⟨some 11, .mv (.t 10), none⟩,
        ⟨some 12, .mv (.t 1), some (11, false)⟩,
        ⟨some 13, .bin .lss (.t 12) (.c (.int .i64 0)), some (11, false)⟩,
        ⟨some 14, .pick (.t 11) (.c (.bool true)) (.t 13), none⟩,
        ⟨some 15, .mv (.t 14), none⟩,
        ⟨some 16, .mv (.t 1), some (15, false)⟩,
        ⟨some 17, .bin .geq (.t 16) (.c (.int .i64 12622780800)), some (15, false)⟩,
        ⟨some 18, .pick (.t 15) (.c (.bool true)) (.t 17), none⟩])
      (.cond (.t 18) (.seq (.reg [
            ⟨some 19, .build [(.int .i64 0), (.int .i64 0)] [], none⟩,
            ⟨none, .st (.t 4) (.t 19) 2 false (some 4), none⟩])
          .ret)
        .skip))
    (.seq (.reg [
        ⟨some 20, .mv (.t 0), none⟩,
        ⟨some 21, .mv (.t 0), none⟩,
        ⟨some 22, .mv (.t 1), none⟩,
        ⟨some 23, .call n_calendar_month [((.t 21), false), ((.t 22), false)] false, none⟩,
        ⟨some 24, .call n_calendar_cycle [((.t 20), false), ((.t 23), false)] false, none⟩,
        ⟨none, .st (.t 4) (.t 24) 2 false (some 4), none⟩])
      .ret))), [.cell 4 (some 2)]⟩

/- billing/billingref03.Cycle -/
def a_billingref03_Cycle : AF := ⟨26, (.seq (.reg [
    ⟨some 4, .newbox [(.int .i64 0), (.int .i64 0)], none⟩])
  (.seq (.seq (.reg [
        ⟨some 6, .mv (.t 1), none⟩,
        ⟨some 7, .bin .lss (.t 6) (.c (.int .i64 0)), none⟩,
        ⟨some 8, .mv (.t 7), none⟩,
        ⟨some 9, .mv (.t 1), some (8, false)⟩,
        ⟨some 10, .bin .geq (.t 9) (.c (.int .i64 12622780800)), some (8, false)⟩,
        ⟨some 11, .pick (.t 8) (.c (.bool true)) (.t 10), none⟩])
      (.cond (.t 11) (.seq (.reg [
            ⟨some 12, .build [(.int .i64 0), (.int .i64 0)] [], none⟩,
            ⟨none, .st (.t 4) (.t 12) 2 false (some 4), none⟩])
          .ret)
        .skip))
    (.seq (.reg [
        ⟨some 13, .mv (.t 0), none⟩,
        ⟨some 14, .mv (.t 1), none⟩,
        ⟨some 15, .mv (.t 1), none⟩,
        ⟨some 16, .bin .add (.t 15) (.c (.int .i64 1)), none⟩,
        ⟨some 17, .build [(.int .i64 0), (.int .i64 0)] [(0, 1, (.t 14)), (1, 1, (.t 16))], none⟩,
        ⟨some 18, .call n_billingref03_Cycles [((.t 13), false), ((.t 17), false)] false, none⟩,
        ⟨none, .cm 18, none⟩,
        ⟨some 5, .mv (.t 18), none⟩,
        ⟨none, .cm 5, none⟩])
      (.seq (.seq (.reg [
            ⟨some 19, .al 5, none⟩,
            ⟨some 20, .len false (.t 19) (some 5), none⟩,
            ⟨some 21, .bin .eql (.t 20) (.c (.int .i64 0)), none⟩])
          (.cond (.t 21) (.seq (.reg [
                ⟨some 22, .build [(.int .i64 0), (.int .i64 0)] [], none⟩,
                ⟨none, .st (.t 4) (.t 22) 2 false (some 4), none⟩])
              .ret)
            .skip))
        (.seq (.reg [
            ⟨some 23, .al 5, none⟩,
            ⟨some 24, .ia (.t 23) (.c (.int .i64 0)) 2 none (some 5), none⟩,
            ⟨some 25, .ld (.t 24) (some 2) false none, none⟩,
            ⟨none, .st (.t 4) (.t 25) 2 false (some 4), none⟩])
          .ret))))), [.cell 4 (some 2)]⟩

/- billing/billinglaw03.short -/
def a_billinglaw03_short : AF := ⟨26, (.seq (.reg [
    ⟨some 1, .boxr (.t 0), none⟩,
    ⟨some 2, .mv (.c (.bool false)), none⟩])
  (.seq (.reg [
      ⟨some 3, .fa (.t 1) 0 none, none⟩,
      ⟨some 4, .ld (.t 3) none false none, none⟩,
      ⟨some 5, .bin .geq (.t 4) (.c (.int .i64 0)), none⟩,
      ⟨some 6, .mv (.t 5), none⟩,
      ⟨some 7, .fa (.t 1) 0 none, some (6, true)⟩,
      ⟨some 8, .ld (.t 7) none false none, some (6, true)⟩,
      ⟨some 9, .fa (.t 1) 1 none, some (6, true)⟩,
      ⟨some 10, .ld (.t 9) none false none, some (6, true)⟩,
      ⟨some 11, .bin .lss (.t 8) (.t 10), some (6, true)⟩,
      ⟨some 12, .pick (.t 6) (.t 11) (.c (.bool false)), none⟩,
      ⟨some 13, .mv (.t 12), none⟩,
      ⟨some 14, .fa (.t 1) 1 none, some (13, true)⟩,
      ⟨some 15, .ld (.t 14) none false none, some (13, true)⟩,
      ⟨some 16, .bin .leq (.t 15) (.c (.int .i64 12622780800)), some (13, true)⟩,
      ⟨some 17, .pick (.t 13) (.t 16) (.c (.bool false)), none⟩,
      ⟨some 18, .mv (.t 17), none⟩,
      ⟨some 19, .fa (.t 1) 1 none, some (18, true)⟩,
      ⟨some 20, .ld (.t 19) none false none, some (18, true)⟩,
      ⟨some 21, .fa (.t 1) 0 none, some (18, true)⟩,
      ⟨some 22, .ld (.t 21) none false none, some (18, true)⟩,
      ⟨some 23, .bin .sub (.t 20) (.t 22), some (18, true)⟩,
      ⟨some 24, .bin .leq (.t 23) (.c (.int .i64 172800000)), some (18, true)⟩,
      ⟨some 25, .pick (.t 18) (.t 24) (.c (.bool false)), none⟩,
      ⟨some 2, .mv (.t 25), none⟩])
    .ret)), [.tmp 2]⟩

/- billing/billinglaw03.same -/
def billinglaw03_same_l1b : AC := (.seq (.seq (.reg [
      ⟨some 11, .mv (.t 5), none⟩,
      ⟨some 12, .cp (.t 0), none⟩,
      ⟨some 13, .len false (.t 12) (some 0), none⟩,
      ⟨some 14, .bin .lss (.t 11) (.t 13), none⟩])
    (.cond (.t 14) .skip
      (.exit 0)))
  (.seq (.blk 1 (.seq (.dreg [
          ⟨some 17, .cp (.t 0), none⟩,
          ⟨some 18, .cp (.t 5), none⟩,
          ⟨some 19, .ia (.t 17) (.t 18) 2 none (some 0), none⟩,
          ⟨some 20, .ld (.t 19) (some 2) false none, none⟩,
          ⟨some 21, .cp (.t 1), none⟩,
          ⟨some 22, .cp (.t 5), none⟩,
          ⟨some 23, .ia (.t 21) (.t 22) 2 none (some 1), none⟩,
          ⟨some 24, .ld (.t 23) (some 2) false none, none⟩,
          ⟨some 25, .eqs true [0, 0] (.t 20) (.t 24), none⟩])
        (.cond (.t 25) (.seq (.reg [
              ⟨some 4, .mv (.c (.bool false)), none⟩])
            .ret)
          .skip)))
    (.reg [
      ⟨some 15, .mv (.t 5), none⟩,
      ⟨some 16, .bin .add (.t 15) (.c (.int .i64 1)), none⟩,
      ⟨some 5, .mv (.t 16), none⟩])))
def billinglaw03_same_l1 : AC := .pre [false, false, false, false, true, false, false, false, false, false, false, true, true, true, true, true, true, true, true, true, true, true, true, true, true, true] billinglaw03_same_l1b
@[go_sem] theorem billinglaw03_same_l1_go {M : Mach} {k : List It} {s : St} {Q : Ex → St → Prop} : Run M (.c (.loop billinglaw03_same_l1) :: k) .norm s Q ↔ Run M (.c billinglaw03_same_l1b :: .lp billinglaw03_same_l1 :: k) .norm { s with t := killM [false, false, false, false, true, false, false, false, false, false, false, true, true, true, true, true, true, true, true, true, true, true, true, true, true, true] [false, false, false, false, true, false, false, false, false, false, false, true, true, true, true, true, true, true, true, true, true, true, true, true, true, true] s.t } Q := run_loop_pre
@[go_sem] theorem billinglaw03_same_l1_lp {M : Mach} {k : List It} {s : St} {Q : Ex → St → Prop} : Run M (.lp billinglaw03_same_l1 :: k) .norm s Q ↔ Run M (.c billinglaw03_same_l1b :: .lp billinglaw03_same_l1 :: k) .norm { s with t := killM [false, false, false, false, true, false, false, false, false, false, false, true, true, true, true, true, true, true, true, true, true, true, true, true, true, true] [false, false, false, false, true, false, false, false, false, false, false, true, true, true, true, true, true, true, true, true, true, true, true, true, true, true] s.t } Q := run_loop_pre
def a_billinglaw03_same : AF := ⟨26, (.seq (.reg [
    ⟨none, .cm 0, none⟩,
    ⟨none, .cm 1, none⟩,
    ⟨some 4, .mv (.c (.bool false)), none⟩])
  (.seq (.seq (.reg [
        ⟨some 6, .cp (.t 0), none⟩,
        ⟨some 7, .len false (.t 6) (some 0), none⟩,
        ⟨some 8, .cp (.t 1), none⟩,
        ⟨some 9, .len false (.t 8) (some 1), none⟩,
        ⟨some 10, .bin .neq (.t 7) (.t 9), none⟩])
      (.cond (.t 10) (.seq (.reg [
            ⟨some 4, .mv (.c (.bool false)), none⟩])
          .ret)
        .skip))
    (.seq (.seq (.reg [
          ⟨some 5, .mv (.c (.int .i64 0)), none⟩])
        (.blk 0 (.pre [false, false, false, false, false, false, true, true, true, true, true] (.loop billinglaw03_same_l1))))
      (.pre [true, true, false, false, true, true, true, true, true, true, true, true, true, true, true, true, true, true, true, true, true, true, true, true, true, true] (.seq (.reg [
          ⟨some 4, .mv (.c (.bool true)), none⟩])
        .ret))))), [.tmp 4]⟩

/- billing/calendar.Cycles -/
def calendar_Cycles_l1b : AC := (.seq (.seq (.reg [
      ⟨some 34, .mv (.t 6), none⟩,
      ⟨some 35, .mv (.t 0), none⟩,
      ⟨some 36, .fa (.t 3) 1 none, none⟩,
      ⟨some 37, .ld (.t 36) none false none, none⟩,
      ⟨some 38, .bin .sub (.t 37) (.c (.int .i64 1)), none⟩,
      ⟨some 39, .call n_calendar_month [((.t 35), false), ((.t 38), false)] false, none⟩,
      ⟨some 40, .bin .leq (.t 34) (.t 39), none⟩])
    (.cond (.t 40) .skip
      (.exit 0)))
  (.seq (.blk 1 (.reg [
        ⟨some 43, .mv (.t 5), none⟩,
        ⟨some 44, .mv (.t 0), none⟩,
        ⟨some 45, .mv (.t 6), none⟩,
        ⟨some 46, .call n_calendar_cycle [((.t 44), false), ((.t 45), false)] false, none⟩,
        ⟨some 47, .bsl 2 1 (.agg [(.int .i64 0), (.int .i64 0)]) [(0, (.t 46))], none⟩,
        ⟨some 48, .app 2 16 (.t 43) (.t 47) none, none⟩,
        ⟨some 5, .mv (.t 48), none⟩]))
    (.reg [
      ⟨some 41, .mv (.t 6), none⟩,
      ⟨some 42, .bin .add (.t 41) (.c (.int .i64 1)), none⟩,
      ⟨some 6, .mv (.t 42), none⟩])))
def calendar_Cycles_l1 : AC := .pre [false, false, false, false, false, false, false, false, false, false, false, false, false, false, false, false, false, false, false, false, false, false, false, false, false, false, false, false, false, false, false, false, false, false, true, true, true, true, true, true, true, true, true, true, true, true, true, true, true] calendar_Cycles_l1b
@[go_sem] theorem calendar_Cycles_l1_go {M : Mach} {k : List It} {s : St} {Q : Ex → St → Prop} : Run M (.c (.loop calendar_Cycles_l1) :: k) .norm s Q ↔ Run M (.c calendar_Cycles_l1b :: .lp calendar_Cycles_l1 :: k) .norm { s with t := killM [false, false, false, false, false, false, false, false, false, false, false, false, false, false, false, false, false, false, false, false, false, false, false, false, false, false, false, false, false, false, false, false, false, false, true, true, true, true, true, true, true, true, true, true, true, true, true, true, true] [false, false, false, false, false, false, false, false, false, false, false, false, false, false, false, false, false, false, false, false, false, false, false, false, false, false, false, false, false, false, false, false, false, false, true, true, true, true, true, true, true, true, true, true, true, true, true, true, true] s.t } Q := run_loop_pre
@[go_sem] theorem calendar_Cycles_l1_lp {M : Mach} {k : List It} {s : St} {Q : Ex → St → Prop} : Run M (.lp calendar_Cycles_l1 :: k) .norm s Q ↔ Run M (.c calendar_Cycles_l1b :: .lp calendar_Cycles_l1 :: k) .norm { s with t := killM [false, false, false, false, false, false, false, false, false, false, false, false, false, false, false, false, false, false, false, false, false, false, false, false, false, false, false, false, false, false, false, false, false, false, true, true, true, true, true, true, true, true, true, true, true, true, true, true, true] [false, false, false, false, false, false, false, false, false, false, false, false, false, false, false, false, false, false, false, false, false, false, false, false, false, false, false, false, false, false, false, false, false, false, true, true, true, true, true, true, true, true, true, true, true, true, true, true, true] s.t } Q := run_loop_pre
def a_calendar_Cycles : AF := ⟨50, (.seq (.reg [
    ⟨some 3, .boxr (.t 1), none⟩,
    ⟨some 4, .mv (.c (.sl true 2 [])), none⟩])
  (.pre [false, false, false, false, true] (.seq (.seq (.reg [
        ⟨some 7, .mv (.t 0), none⟩,
        ⟨some 8, .bin .lss (.t 7) (.c (.int .i64 1)), none⟩,
        ⟨some 9, .mv (.t 8), none⟩,
        ⟨some 10, .mv (.t 0), some (9, false)⟩,
        ⟨some 11, .bin .gtr (.t 10) (.c (.int .i64 28)), some (9, false)⟩,
        ⟨some 12, .pick (.t 9) (.c (.bool true)) (.t 11), none⟩,
        ⟨some 13, .mv (.t 12), none⟩,
        ⟨some 14, .fa (.t 3) 0 none, some (13, false)⟩,
        ⟨some 15, .ld (.t 14) none false none, some (13, false)⟩,
        ⟨some 16, .bin .lss (.t 15) (.c (.int .i64 0)), some (13, false)⟩,
        ⟨some 17, .pick (.t 13) (.c (.bool true)) (.t 16), none⟩,
        ⟨some 18, .mv (.t 17), none⟩,
        ⟨some 19, .fa (.t 3) 0 none, some (18, false)⟩,
        ⟨some 20, .ld (.t 19) none false none, some (18, false)⟩,
        ⟨some 21, .fa (.t 3) 1 none, some (18, false)⟩,
        ⟨some 22, .ld (.t 21) none false none, some (18, false)⟩,
        ⟨some 23, .bin .geq (.t 20) (.t 22), some (18, false)⟩,
        ⟨some 24, .pick (.t 18) (.c (.bool true)) (.t 23), none⟩,
        ⟨some 25, .mv (.t 24), none⟩,
        ⟨some 26, .fa (.t 3) 1 none, some (25, false)⟩,
        ⟨some 27, .ld (.t 26) none false none, some (25, false)⟩,
        ⟨some 28, .bin .gtr (.t 27) (.c (.int .i64 12622780800)), some (25, false)⟩,
        ⟨some 29, .pick (.t 25) (.c (.bool true)) (.t 28), none⟩])
      (.cond (.t 29) (.seq (.reg [
            ⟨some 4, .mv (.c (.sl true 2 [])), none⟩])
          .ret)
        .skip))
    (.pre [false, false, false, false, true] (.seq (.reg [
        ⟨some 5, .mv (.c (.sl true 2 [])), none⟩])
      (.seq (.seq (.reg [
            ⟨some 30, .mv (.t 0), none⟩,
            ⟨some 31, .fa (.t 3) 0 none, none⟩,
            ⟨some 32, .ld (.t 31) none false none, none⟩,
            ⟨some 33, .call n_calendar_month [((.t 30), false), ((.t 32), false)] false, none⟩,
            ⟨some 6, .mv (.t 33), none⟩])
          (.blk 0 (.pre [false, true, false, false, false, false, false, true, true, true, true, true, true, true, true, true, true, true, true, true, true, true, true, true, true, true, true, true, true, true, true, true, true, true] (.loop calendar_Cycles_l1))))
        (.pre [true, true, false, true, false, false, true, true, true, true, true, true, true, true, true, true, true, true, true, true, true, true, true, true, true, true, true, true, true, true, true, true, true, true, true, true, true, true, true, true, true, true, true, true, true, true, true, true, true] (.seq (.reg [
            ⟨some 49, .mv (.t 5), none⟩,
            ⟨some 4, .mv (.t 49), none⟩])
          (.pre [false, false, false, false, false, true] .ret))))))))), [.tmp 4]⟩

/- billing/billingref03.Cycles -/
def billingref03_Cycles_l1b : AC := (.seq (.seq (.reg [
      ⟨some 21, .mv (.t 8), none⟩,
      ⟨some 22, .bin .leq (.t 21) (.c (.int .i64 4800)), none⟩])
    (.cond (.t 22) .skip
      (.exit 0)))
  (.seq (.blk 1 (.seq (.reg [
          ⟨some 9, .mv (.c (.int .i64 12622780800)), none⟩])
        (.seq (.seq (.reg [
              ⟨some 25, .mv (.t 8), none⟩,
              ⟨some 26, .bin .lss (.t 25) (.c (.int .i64 4800)), none⟩])
            (.cond (.t 26) (.seq (.reg [
                  ⟨some 27, .mv (.t 7), none⟩,
                  ⟨some 28, .mv (.t 0), none⟩,
                  ⟨some 29, .bin .add (.t 27) (.t 28), none⟩,
                  ⟨some 30, .bin .sub (.t 29) (.c (.int .i64 1)), none⟩,
                  ⟨some 31, .bin .mul (.t 30) (.c (.int .i64 86400)), none⟩,
                  ⟨some 9, .mv (.t 31), none⟩])
                (.reg [
                  ⟨some 32, .mv (.t 7), none⟩,
                  ⟨some 33, .mv (.t 8), none⟩,
                  ⟨some 34, .bin .quo (.t 33) (.c (.int .i64 12)), none⟩,
                  ⟨some 35, .bin .add (.c (.int .i64 2000)) (.t 34), none⟩,
                  ⟨some 36, .mv (.t 8), none⟩,
                  ⟨some 37, .bin .rem (.t 36) (.c (.int .i64 12)), none⟩,
                  ⟨some 38, .bin .add (.t 37) (.c (.int .i64 1)), none⟩,
                  ⟨some 39, .call n_billingref03_Length [((.t 35), false), ((.t 38), false)] false, none⟩,
                  ⟨some 40, .bin .add (.t 32) (.t 39), none⟩,
                  ⟨some 7, .mv (.t 40), none⟩]))
              .skip))
          (.seq (.seq (.reg [
                ⟨some 41, .mv (.t 9), none⟩,
                ⟨some 42, .mv (.t 6), none⟩,
                ⟨some 43, .bin .gtr (.t 41) (.t 42), none⟩,
                ⟨some 44, .mv (.t 43), none⟩,
                ⟨some 45, .mv (.t 6), some (44, true)⟩,
                ⟨some 46, .fa (.t 3) 1 none, some (44, true)⟩,
                ⟨some 47, .ld (.t 46) none false none, some (44, true)⟩,
                ⟨some 48, .bin .lss (.t 45) (.t 47), some (44, true)⟩,
                ⟨some 49, .pick (.t 44) (.t 48) (.c (.bool false)), none⟩,
                ⟨some 50, .mv (.t 49), none⟩,
                ⟨some 51, .fa (.t 3) 0 none, some (50, true)⟩,
                ⟨some 52, .ld (.t 51) none false none, some (50, true)⟩,
                ⟨some 53, .mv (.t 9), some (50, true)⟩,
                ⟨some 54, .bin .lss (.t 52) (.t 53), some (50, true)⟩,
                ⟨some 55, .pick (.t 50) (.t 54) (.c (.bool false)), none⟩])
              (.cond (.t 55) (.reg [
                  ⟨some 56, .mv (.t 5), none⟩,
                  ⟨some 57, .mv (.t 6), none⟩,
                  ⟨some 58, .mv (.t 9), none⟩,
                  ⟨some 59, .build [(.int .i64 0), (.int .i64 0)] [(0, 1, (.t 57)), (1, 1, (.t 58))], none⟩,
                  ⟨some 60, .bsl 2 1 (.agg [(.int .i64 0), (.int .i64 0)]) [(0, (.t 59))], none⟩,
                  ⟨some 61, .app 2 16 (.t 56) (.t 60) none, none⟩,
                  ⟨some 5, .mv (.t 61), none⟩])
                .skip))
            (.reg [
              ⟨some 62, .mv (.t 9), none⟩,
              ⟨some 6, .mv (.t 62), none⟩])))))
    (.reg [
      ⟨some 23, .mv (.t 8), none⟩,
      ⟨some 24, .bin .add (.t 23) (.c (.int .i64 1)), none⟩,
      ⟨some 8, .mv (.t 24), none⟩])))
def billingref03_Cycles_l1 : AC := .pre [false, false, false, false, false, false, false, false, false, true, false, false, false, false, false, false, false, false, false, false, false, true, true, true, true, true, true, true, true, true, true, true, true, true, true, true, true, true, true, true, true, true, true, true, true, true, true, true, true, true, true, true, true, true, true, true, true, true, true, true, true, true, true] billingref03_Cycles_l1b
@[go_sem] theorem billingref03_Cycles_l1_go {M : Mach} {k : List It} {s : St} {Q : Ex → St → Prop} : Run M (.c (.loop billingref03_Cycles_l1) :: k) .norm s Q ↔ Run M (.c billingref03_Cycles_l1b :: .lp billingref03_Cycles_l1 :: k) .norm { s with t := killM [false, false, false, false, false, false, false, false, false, true, false, false, false, false, false, false, false, false, false, false, false, true, true, true, true, true, true, true, true, true, true, true, true, true, true, true, true, true, true, true, true, true, true, true, true, true, true, true, true, true, true, true, true, true, true, true, true, true, true, true, true, true, true] [false, false, false, false, false, false, false, false, false, true, false, false, false, false, false, false, false, false, false, false, false, true, true, true, true, true, true, true, true, true, true, true, true, true, true, true, true, true, true, true, true, true, true, true, true, true, true, true, true, true, true, true, true, true, true, true, true, true, true, true, true, true, true] s.t } Q := run_loop_pre
@[go_sem] theorem billingref03_Cycles_l1_lp {M : Mach} {k : List It} {s : St} {Q : Ex → St → Prop} : Run M (.lp billingref03_Cycles_l1 :: k) .norm s Q ↔ Run M (.c billingref03_Cycles_l1b :: .lp billingref03_Cycles_l1 :: k) .norm { s with t := killM [false, false, false, false, false, false, false, false, false, true, false, false, false, false, false, false, false, false, false, false, false, true, true, true, true, true, true, true, true, true, true, true, true, true, true, true, true, true, true, true, true, true, true, true, true, true, true, true, true, true, true, true, true, true, true, true, true, true, true, true, true, true, true] [false, false, false, false, false, false, false, false, false, true, false, false, false, false, false, false, false, false, false, false, false, true, true, true, true, true, true, true, true, true, true, true, true, true, true, true, true, true, true, true, true, true, true, true, true, true, true, true, true, true, true, true, true, true, true, true, true, true, true, true, true, true, true] s.t } Q := run_loop_pre
def a_billingref03_Cycles : AF := ⟨64, (.seq (.reg [
    ⟨some 3, .boxr (.t 1), none⟩,
    ⟨some 4, .mv (.c (.sl true 2 [])), none⟩])
  (.pre [false, false, false, false, true] (.seq (.seq (.reg [
        ⟨some 10, .mv (.t 0), none⟩,
        ⟨some 11, .bin .lss (.t 10) (.c (.int .i64 1)), none⟩,
        ⟨some 12, .mv (.t 11), none⟩,
        ⟨some 13, .mv (.t 0), some (12, false)⟩,
        ⟨some 14, .bin .gtr (.t 13) (.c (.int .i64 28)), some (12, false)⟩,
        ⟨some 15, .pick (.t 12) (.c (.bool true)) (.t 14), none⟩,
        ⟨some 16, .mv (.t 15), none⟩,
        ⟨some 17, .ld (.t 3) (some 2) false none, some (16, false)⟩,
        ⟨some 18, .call n_billingref03_valid [((.t 17), false)] false, some (16, false)⟩,
        ⟨some 19, .un .not (.t 18), some (16, false)⟩,
        ⟨some 20, .pick (.t 16) (.c (.bool true)) (.t 19), none⟩])
      (.cond (.t 20) (.seq (.reg [
            ⟨some 4, .mv (.c (.sl true 2 [])), none⟩])
          .ret)
        .skip))
    (.pre [false, false, false, false, true] (.seq (.reg [
        ⟨some 5, .mv (.c (.sl true 2 [])), none⟩])
      (.seq (.reg [
          ⟨some 6, .mv (.c (.int .i64 0)), none⟩,
          ⟨some 7, .mv (.c (.int .i64 0)), none⟩])
        (.seq (.seq (.reg [
              ⟨some 8, .mv (.c (.int .i64 0)), none⟩])
            (.blk 0 (.pre [false, true, false, false, false, false, false, false, false, false, true, true, true, true, true, true, true, true, true, true, true] (.loop billingref03_Cycles_l1))))
          (.pre [true, true, false, true, false, false, true, true, true, true, true, true, true, true, true, true, true, true, true, true, true, true, true, true, true, true, true, true, true, true, true, true, true, true, true, true, true, true, true, true, true, true, true, true, true, true, true, true, true, true, true, true, true, true, true, true, true, true, true, true, true, true, true] (.seq (.reg [
              ⟨some 63, .mv (.t 5), none⟩,
              ⟨some 4, .mv (.t 63), none⟩])
            (.pre [false, false, false, false, false, true] .ret)))))))))), [.tmp 4]⟩

/- billing/billingref03.Parse -/
def a_billingref03_Parse : AF := ⟨45, (.seq (.reg [
    ⟨some 2, .mv (.c (.int .i64 0)), none⟩,
    ⟨some 3, .mv (.c (.int .i64 0)), none⟩])
  (.seq (.seq (.reg [
        ⟨some 5, .mv (.t 0), none⟩,
        ⟨some 6, .len true (.t 5) none, none⟩,
        ⟨some 7, .bin .neq (.t 6) (.c (.int .i64 10)), none⟩,
        ⟨some 8, .mv (.t 7), none⟩,
        ⟨some 9, .mv (.t 0), some (8, false)⟩,
        ⟨some 10, .idx (.t 9) (.c (.int .i64 4)) none 1 false, some (8, false)⟩,
        ⟨some 11, .bin .neq (.t 10) (.c (.int .u8 45)), some (8, false)⟩,
        ⟨some 12, .pick (.t 8) (.c (.bool true)) (.t 11), none⟩,
        ⟨some 13, .mv (.t 12), none⟩,
        ⟨some 14, .mv (.t 0), some (13, false)⟩,
        ⟨some 15, .idx (.t 14) (.c (.int .i64 7)) none 1 false, some (13, false)⟩,
        ⟨some 16, .bin .neq (.t 15) (.c (.int .u8 45)), some (13, false)⟩,
        ⟨some 17, .pick (.t 13) (.c (.bool true)) (.t 16), none⟩])
      (.cond (.t 17) (.seq (.reg [
            ⟨some 2, .mv (.c (.int .i64 0)), none⟩,
            ⟨some 3, .mv (.c (.int .i64 1)), none⟩])
          .ret)
        .skip))
    (.seq (.dreg [
        ⟨some 18, .cp (.t 0), none⟩,
        ⟨some 19, .slc none (.t 18) none (some (.c (.int .i64 4))) none, none⟩,
        ⟨some 20, .call n_billingref03_number [((.t 19), false)] false, none⟩,
        ⟨some 21, .cp (.t 0), none⟩,
        ⟨some 22, .slc none (.t 21) (some (.c (.int .i64 5))) (some (.c (.int .i64 7))) none, none⟩,
        ⟨some 23, .call n_billingref03_number [((.t 22), false)] false, none⟩,
        ⟨some 24, .cp (.t 0), none⟩,
        ⟨some 25, .slc none (.t 24) (some (.c (.int .i64 8))) none none, none⟩,
        ⟨some 26, .call n_billingref03_number [((.t 25), false)] false, none⟩,
        ⟨some 27, .build [(.int .i64 0), (.int .i64 0), (.int .i64 0)] [(0, 1, (.t 20)), (1, 1, (.t 23)), (2, 1, (.t 26))], none⟩,
        ⟨some 4, .newbox [(.int .i64 0), (.int .i64 0), (.int .i64 0)], none⟩,
        ⟨none, .st (.t 4) (.t 27) 3 false (some 4), none⟩])
      (.seq (.seq (.reg [
            ⟨some 28, .fa (.t 4) 0 (some 4), none⟩,
            ⟨some 29, .ld (.t 28) none false (some 4), none⟩,
            ⟨some 30, .bin .lss (.t 29) (.c (.int .i64 0)), none⟩,
            ⟨some 31, .mv (.t 30), none⟩,
            ⟨some 32, .fa (.t 4) 1 (some 4), some (31, false)⟩,
            ⟨some 33, .ld (.t 32) none false (some 4), some (31, false)⟩,
            ⟨some 34, .bin .lss (.t 33) (.c (.int .i64 0)), some (31, false)⟩,
            ⟨some 35, .pick (.t 31) (.c (.bool true)) (.t 34), none⟩,
            ⟨some 36, .mv (.t 35), none⟩,
            ⟨some 37, .fa (.t 4) 2 (some 4), some (36, false)⟩,
            ⟨some 38, .ld (.t 37) none false (some 4), some (36, false)⟩,
            ⟨some 39, .bin .lss (.t 38) (.c (.int .i64 0)), some (36, false)⟩,
            ⟨some 40, .pick (.t 36) (.c (.bool true)) (.t 39), none⟩])
          (.cond (.t 40) (.seq (.reg [
                ⟨some 2, .mv (.c (.int .i64 0)), none⟩,
                ⟨some 3, .mv (.c (.int .i64 1)), none⟩])
              .ret)
            .skip))
        (.seq (.reg [
            ⟨some 41, .ld (.t 4) (some 3) false (some 4), none⟩,
            ⟨some 42, .call n_billingref03_Day [((.t 41), false)] false, none⟩,
            ⟨some 43, .ext 42 0, none⟩,
            ⟨some 44, .ext 42 1, none⟩,
            ⟨some 2, .mv (.t 43), none⟩,
            ⟨some 3, .mv (.t 44), none⟩])
          .ret))))), [.tmp 2, .tmp 3]⟩

/- billing/billingref03.Print -/
def a_billingref03_Print : AF := ⟨22, (.seq (.reg [
    ⟨some 2, .mv (.c (.str [])), none⟩])
  (.seq (.reg [
      ⟨some 4, .mv (.t 0), none⟩,
      ⟨some 5, .call n_billingref03_Date [((.t 4), false)] false, none⟩,
      ⟨some 3, .newbox [(.int .i64 0), (.int .i64 0), (.int .i64 0)], none⟩,
      ⟨none, .st (.t 3) (.t 5) 3 false (some 3), none⟩])
    (.seq (.seq (.reg [
          ⟨some 6, .fa (.t 3) 0 (some 3), none⟩,
          ⟨some 7, .ld (.t 6) none false (some 3), none⟩,
          ⟨some 8, .bin .eql (.t 7) (.c (.int .i64 0)), none⟩])
        (.cond (.t 8) (.seq (.reg [
              ⟨some 2, .mv (.c (.str [])), none⟩])
            .ret)
          .skip))
      (.seq (.dreg [
          ⟨some 9, .fa (.t 3) 0 (some 3), none⟩,
          ⟨some 10, .ld (.t 9) none false (some 3), none⟩,
          ⟨some 11, .call n_billingref03_digits [((.t 10), false), ((.c (.int .i64 4)), false)] false, none⟩,
          ⟨some 12, .bin .add (.t 11) (.c (.str [45])), none⟩,
          ⟨some 13, .fa (.t 3) 1 (some 3), none⟩,
          ⟨some 14, .ld (.t 13) none false (some 3), none⟩,
          ⟨some 15, .call n_billingref03_digits [((.t 14), false), ((.c (.int .i64 2)), false)] false, none⟩,
          ⟨some 16, .bin .add (.t 12) (.t 15), none⟩,
          ⟨some 17, .bin .add (.t 16) (.c (.str [45])), none⟩,
          ⟨some 18, .fa (.t 3) 2 (some 3), none⟩,
          ⟨some 19, .ld (.t 18) none false (some 3), none⟩,
          ⟨some 20, .call n_billingref03_digits [((.t 19), false), ((.c (.int .i64 2)), false)] false, none⟩,
          ⟨some 21, .bin .add (.t 17) (.t 20), none⟩,
          ⟨some 2, .cp (.t 21), none⟩])
        .ret)))), [.tmp 2]⟩

/- billing/calendar.before -/
def a_calendar_before : AF := ⟨26, (.seq (.reg [
    ⟨some 2, .mv (.c (.int .i64 0)), none⟩])
  (.seq (.reg [
      ⟨some 5, .mv (.t 0), none⟩,
      ⟨some 6, .bin .sub (.t 5) (.c (.int .i64 2000)), none⟩,
      ⟨some 3, .mv (.t 6), none⟩])
    (.seq (.reg [
        ⟨some 7, .mv (.t 3), none⟩,
        ⟨some 8, .bin .mul (.c (.int .i64 365)) (.t 7), none⟩,
        ⟨some 4, .mv (.t 8), none⟩])
      (.seq (.seq (.reg [
            ⟨some 9, .mv (.t 3), none⟩,
            ⟨some 10, .bin .gtr (.t 9) (.c (.int .i64 0)), none⟩])
          (.cond (.t 10) (.reg [
              ⟨some 11, .mv (.t 4), none⟩,
              ⟨some 12, .mv (.t 3), none⟩,
              ⟨some 13, .bin .sub (.t 12) (.c (.int .i64 1)), none⟩,
              ⟨some 14, .bin .quo (.t 13) (.c (.int .i64 4)), none⟩,
              ⟨some 15, .mv (.t 3), none⟩,
              ⟨some 16, .bin .sub (.t 15) (.c (.int .i64 1)), none⟩,
              ⟨some 17, .bin .quo (.t 16) (.c (.int .i64 100)), none⟩,
              ⟨some 18, .bin .sub (.t 14) (.t 17), none⟩,
              ⟨some 19, .mv (.t 3), none⟩,
              ⟨some 20, .bin .sub (.t 19) (.c (.int .i64 1)), none⟩,
              ⟨some 21, .bin .quo (.t 20) (.c (.int .i64 400)), none⟩,
              ⟨some 22, .bin .add (.t 18) (.t 21), none⟩,
              ⟨some 23, .bin .add (.t 22) (.c (.int .i64 1)), none⟩,
              ⟨some 24, .bin .add (.t 11) (.t 23), none⟩,
              ⟨some 4, .mv (.t 24), none⟩])
            .skip))
        (.seq (.reg [
            ⟨some 25, .mv (.t 4), none⟩,
            ⟨some 2, .mv (.t 25), none⟩])
          .ret))))), [.tmp 2]⟩

/- billing/calendar.days -/
def a_calendar_days : AF := ⟨17, (.seq (.reg [
    ⟨some 4, .mv (.c (.int .i64 0)), none⟩])
  (.seq (.reg [
      ⟨some 6, .build [(.int .i64 0), (.int .i64 0), (.int .i64 0), (.int .i64 0), (.int .i64 0), (.int .i64 0), (.int .i64 0), (.int .i64 0), (.int .i64 0), (.int .i64 0), (.int .i64 0), (.int .i64 0)] [(0, 1, (.c (.int .i64 31))), (1, 1, (.c (.int .i64 28))), (2, 1, (.c (.int .i64 31))), (3, 1, (.c (.int .i64 30))), (4, 1, (.c (.int .i64 31))), (5, 1, (.c (.int .i64 30))), (6, 1, (.c (.int .i64 31))), (7, 1, (.c (.int .i64 31))), (8, 1, (.c (.int .i64 30))), (9, 1, (.c (.int .i64 31))), (10, 1, (.c (.int .i64 30))), (11, 1, (.c (.int .i64 31)))], none⟩,
      ⟨some 5, .newbox [(.int .i64 0), (.int .i64 0), (.int .i64 0), (.int .i64 0), (.int .i64 0), (.int .i64 0), (.int .i64 0), (.int .i64 0), (.int .i64 0), (.int .i64 0), (.int .i64 0), (.int .i64 0)], none⟩,
      ⟨none, .st (.t 5) (.t 6) 12 false (some 5), none⟩])
    (.seq (.seq (.reg [
          ⟨some 7, .mv (.t 1), none⟩,
          ⟨some 8, .bin .eql (.t 7) (.c (.int .i64 2)), none⟩,
          ⟨some 9, .mv (.t 8), none⟩,
          ⟨some 10, .mv (.t 0), some (9, true)⟩,
          ⟨some 11, .call n_calendar_leap [((.t 10), false)] false, some (9, true)⟩,
          ⟨some 12, .pick (.t 9) (.t 11) (.c (.bool false)), none⟩])
        (.cond (.t 12) (.seq (.reg [
              ⟨some 4, .mv (.c (.int .i64 29)), none⟩])
            .ret)
          .skip))
      (.seq (.reg [
          ⟨some 13, .mv (.t 1), none⟩,
          ⟨some 14, .bin .sub (.t 13) (.c (.int .i64 1)), none⟩,
          ⟨some 15, .ia (.t 5) (.t 14) 1 (some 12) (some 5), none⟩,
          ⟨some 16, .ld (.t 15) none false (some 5), none⟩,
          ⟨some 4, .mv (.t 16), none⟩])
        .ret)))), [.tmp 4]⟩

/- billing/billingref03.before -/
def billingref03_before_l1b : AC := (.seq (.seq (.reg [
      ⟨some 8, .mv (.t 6), none⟩,
      ⟨some 9, .mv (.t 0), none⟩,
      ⟨some 10, .bin .lss (.t 8) (.t 9), none⟩])
    (.cond (.t 10) .skip
      (.exit 0)))
  (.seq (.blk 1 (.reg [
        ⟨some 13, .mv (.t 5), none⟩,
        ⟨some 14, .mv (.t 6), none⟩,
        ⟨some 15, .call n_billingref03_year [((.t 14), false)] false, none⟩,
        ⟨some 16, .bin .add (.t 13) (.t 15), none⟩,
        ⟨some 5, .mv (.t 16), none⟩]))
    (.reg [
      ⟨some 11, .mv (.t 6), none⟩,
      ⟨some 12, .bin .add (.t 11) (.c (.int .i64 1)), none⟩,
      ⟨some 6, .mv (.t 12), none⟩])))
def billingref03_before_l1 : AC := .pre [false, false, false, false, false, false, false, false, true, true, true, true, true, true, true, true, true] billingref03_before_l1b
@[go_sem] theorem billingref03_before_l1_go {M : Mach} {k : List It} {s : St} {Q : Ex → St → Prop} : Run M (.c (.loop billingref03_before_l1) :: k) .norm s Q ↔ Run M (.c billingref03_before_l1b :: .lp billingref03_before_l1 :: k) .norm { s with t := killM [false, false, false, false, false, false, false, false, true, true, true, true, true, true, true, true, true] [false, false, false, false, false, false, false, false, true, true, true, true, true, true, true, true, true] s.t } Q := run_loop_pre
@[go_sem] theorem billingref03_before_l1_lp {M : Mach} {k : List It} {s : St} {Q : Ex → St → Prop} : Run M (.lp billingref03_before_l1 :: k) .norm s Q ↔ Run M (.c billingref03_before_l1b :: .lp billingref03_before_l1 :: k) .norm { s with t := killM [false, false, false, false, false, false, false, false, true, true, true, true, true, true, true, true, true] [false, false, false, false, false, false, false, false, true, true, true, true, true, true, true, true, true] s.t } Q := run_loop_pre
def billingref03_before_l2b : AC := (.seq (.seq (.reg [
      ⟨some 17, .mv (.t 7), none⟩,
      ⟨some 18, .mv (.t 1), none⟩,
      ⟨some 19, .bin .lss (.t 17) (.t 18), none⟩])
    (.cond (.t 19) .skip
      (.exit 2)))
  (.seq (.blk 3 (.reg [
        ⟨some 22, .mv (.t 5), none⟩,
        ⟨some 23, .mv (.t 0), none⟩,
        ⟨some 24, .mv (.t 7), none⟩,
        ⟨some 25, .call n_billingref03_Length [((.t 23), false), ((.t 24), false)] false, none⟩,
        ⟨some 26, .bin .add (.t 22) (.t 25), none⟩,
        ⟨some 5, .mv (.t 26), none⟩]))
    (.reg [
      ⟨some 20, .mv (.t 7), none⟩,
      ⟨some 21, .bin .add (.t 20) (.c (.int .i64 1)), none⟩,
      ⟨some 7, .mv (.t 21), none⟩])))
def billingref03_before_l2 : AC := .pre [false, false, false, false, false, false, false, false, false, false, false, false, false, false, false, false, false, true, true, true, true, true, true, true, true, true, true] billingref03_before_l2b
@[go_sem] theorem billingref03_before_l2_go {M : Mach} {k : List It} {s : St} {Q : Ex → St → Prop} : Run M (.c (.loop billingref03_before_l2) :: k) .norm s Q ↔ Run M (.c billingref03_before_l2b :: .lp billingref03_before_l2 :: k) .norm { s with t := killM [false, false, false, false, false, false, false, false, false, false, false, false, false, false, false, false, false, true, true, true, true, true, true, true, true, true, true] [false, false, false, false, false, false, false, false, false, false, false, false, false, false, false, false, false, true, true, true, true, true, true, true, true, true, true] s.t } Q := run_loop_pre
@[go_sem] theorem billingref03_before_l2_lp {M : Mach} {k : List It} {s : St} {Q : Ex → St → Prop} : Run M (.lp billingref03_before_l2 :: k) .norm s Q ↔ Run M (.c billingref03_before_l2b :: .lp billingref03_before_l2 :: k) .norm { s with t := killM [false, false, false, false, false, false, false, false, false, false, false, false, false, false, false, false, false, true, true, true, true, true, true, true, true, true, true] [false, false, false, false, false, false, false, false, false, false, false, false, false, false, false, false, false, true, true, true, true, true, true, true, true, true, true] s.t } Q := run_loop_pre
def a_billingref03_before : AF := ⟨28, (.seq (.reg [
    ⟨some 4, .mv (.c (.int .i64 0)), none⟩])
  (.seq (.reg [
      ⟨some 5, .mv (.c (.int .i64 0)), none⟩])
    (.seq (.seq (.reg [
          ⟨some 6, .mv (.c (.int .i64 2000)), none⟩])
        (.blk 0 (.pre [false, false, false, false, true] (.loop billingref03_before_l1))))
      (.pre [false, false, false, false, true, false, true, false, true, true, true, true, true, true, true, true, true] (.seq (.seq (.reg [
            ⟨some 7, .mv (.c (.int .i64 1)), none⟩])
          (.blk 2 (.loop billingref03_before_l2)))
        (.pre [true, true, false, false, false, false, false, true, false, false, false, false, false, false, false, false, false, true, true, true, true, true, true, true, true, true, true] (.seq (.reg [
            ⟨some 27, .mv (.t 5), none⟩,
            ⟨some 4, .mv (.t 27), none⟩])
          .ret))))))), [.tmp 4]⟩

/- billing/billingref03.leap -/
def a_billingref03_leap : AF := ⟨16, (.seq (.reg [
    ⟨some 2, .mv (.c (.bool false)), none⟩])
  (.seq (.reg [
      ⟨some 3, .mv (.t 0), none⟩,
      ⟨some 4, .bin .rem (.t 3) (.c (.int .i64 4)), none⟩,
      ⟨some 5, .bin .eql (.t 4) (.c (.int .i64 0)), none⟩,
      ⟨some 6, .mv (.t 5), none⟩,
      ⟨some 7, .mv (.t 0), some (6, true)⟩,
      ⟨some 8, .bin .rem (.t 7) (.c (.int .i64 100)), some (6, true)⟩,
      ⟨some 9, .bin .neq (.t 8) (.c (.int .i64 0)), some (6, true)⟩,
      ⟨some 10, .mv (.t 9), some (6, true)⟩,
      ⟨some 11, .mv (.t 0), some (10, false)⟩,
      ⟨some 12, .bin .rem (.t 11) (.c (.int .i64 400)), some (10, false)⟩,
      ⟨some 13, .bin .eql (.t 12) (.c (.int .i64 0)), some (10, false)⟩,
      ⟨some 14, .pick (.t 10) (.c (.bool true)) (.t 13), some (6, true)⟩,
      ⟨some 15, .pick (.t 6) (.t 14) (.c (.bool false)), none⟩,
      ⟨some 2, .mv (.t 15), none⟩])
    .ret)), [.tmp 2]⟩

/- billing/billingref03.year -/
def a_billingref03_year : AF := ⟨5, (.seq (.reg [
    ⟨some 2, .mv (.c (.int .i64 0)), none⟩])
  (.seq (.seq (.reg [
        ⟨some 3, .mv (.t 0), none⟩,
        ⟨some 4, .call n_billingref03_leap [((.t 3), false)] false, none⟩])
      (.cond (.t 4) (.seq (.reg [
            ⟨some 2, .mv (.c (.int .i64 366)), none⟩])
          .ret)
        .skip))
    (.seq (.reg [
        ⟨some 2, .mv (.c (.int .i64 365)), none⟩])
      .ret))), [.tmp 2]⟩

/- billing/calendar.digits -/
def a_calendar_digits : AF := ⟨18, (.seq (.reg [
    ⟨some 4, .mv (.c (.str [])), none⟩])
  (.seq (.seq (.reg [
        ⟨some 5, .mv (.t 1), none⟩,
        ⟨some 6, .bin .eql (.t 5) (.c (.int .i64 0)), none⟩])
      (.cond (.t 6) (.seq (.reg [
            ⟨some 4, .mv (.c (.str [])), none⟩])
          .ret)
        .skip))
    (.seq (.reg [
        ⟨some 7, .mv (.t 0), none⟩,
        ⟨some 8, .bin .quo (.t 7) (.c (.int .i64 10)), none⟩,
        ⟨some 9, .mv (.t 1), none⟩,
        ⟨some 10, .bin .sub (.t 9) (.c (.int .i64 1)), none⟩,
        ⟨some 11, .call n_calendar_digits [((.t 8), false), ((.t 10), false)] false, none⟩,
        ⟨some 12, .mv (.t 0), none⟩,
        ⟨some 13, .bin .rem (.t 12) (.c (.int .i64 10)), none⟩,
        ⟨some 14, .bin .add (.c (.int .i64 48)) (.t 13), none⟩,
        ⟨some 15, .cvi .i32 (.t 14), none⟩,
        ⟨some 16, .cvr (.t 15), none⟩,
        ⟨some 17, .bin .add (.t 11) (.t 16), none⟩,
        ⟨some 4, .mv (.t 17), none⟩])
      .ret))), [.tmp 4]⟩

/- billing/calendar.cycle -/
def a_calendar_cycle : AF := ⟨18, (.seq (.reg [
    ⟨some 4, .newbox [(.int .i64 0), (.int .i64 0)], none⟩])
  (.seq (.reg [
      ⟨some 6, .mv (.t 0), none⟩,
      ⟨some 7, .mv (.t 1), none⟩,
      ⟨some 8, .bin .add (.t 7) (.c (.int .i64 1)), none⟩,
      ⟨some 9, .call n_calendar_begin [((.t 6), false), ((.t 8), false)] false, none⟩,
      ⟨some 10, .build [(.int .i64 0), (.int .i64 0)] [(1, 1, (.t 9))], none⟩,
      ⟨some 5, .newbox [(.int .i64 0), (.int .i64 0)], none⟩,
      ⟨none, .st (.t 5) (.t 10) 2 false (some 5), none⟩])
    (.seq (.seq (.reg [
          ⟨some 11, .mv (.t 1), none⟩,
          ⟨some 12, .bin .geq (.t 11) (.c (.int .i64 0)), none⟩])
        (.cond (.t 12) (.reg [
            ⟨some 13, .mv (.t 0), none⟩,
            ⟨some 14, .mv (.t 1), none⟩,
            ⟨some 15, .call n_calendar_begin [((.t 13), false), ((.t 14), false)] false, none⟩,
            ⟨some 16, .fa (.t 5) 0 (some 5), none⟩,
            ⟨none, .st (.t 16) (.t 15) 1 false (some 5), none⟩])
          .skip))
      (.seq (.reg [
          ⟨some 17, .ld (.t 5) (some 2) false (some 5), none⟩,
          ⟨none, .st (.t 4) (.t 17) 2 false (some 4), none⟩])
        .ret)))), [.cell 4 (some 2)]⟩

/- billing/calendar.month -/
def a_calendar_month : AF := ⟨25, (.seq (.reg [
    ⟨some 4, .mv (.c (.int .i64 0)), none⟩])
  (.seq (.reg [
      ⟨some 7, .mv (.t 1), none⟩,
      ⟨some 8, .bin .quo (.t 7) (.c (.int .i64 86400)), none⟩,
      ⟨some 9, .call n_calendar_Date [((.t 8), false)] false, none⟩,
      ⟨some 5, .newbox [(.int .i64 0), (.int .i64 0), (.int .i64 0)], none⟩,
      ⟨none, .st (.t 5) (.t 9) 3 false (some 5), none⟩])
    (.seq (.reg [
        ⟨some 10, .fa (.t 5) 0 (some 5), none⟩,
        ⟨some 11, .ld (.t 10) none false (some 5), none⟩,
        ⟨some 12, .bin .sub (.t 11) (.c (.int .i64 2000)), none⟩,
        ⟨some 13, .bin .mul (.c (.int .i64 12)) (.t 12), none⟩,
        ⟨some 14, .fa (.t 5) 1 (some 5), none⟩,
        ⟨some 15, .ld (.t 14) none false (some 5), none⟩,
        ⟨some 16, .bin .add (.t 13) (.t 15), none⟩,
        ⟨some 17, .bin .sub (.t 16) (.c (.int .i64 1)), none⟩,
        ⟨some 6, .mv (.t 17), none⟩])
      (.seq (.seq (.reg [
            ⟨some 18, .fa (.t 5) 2 (some 5), none⟩,
            ⟨some 19, .ld (.t 18) none false (some 5), none⟩,
            ⟨some 20, .mv (.t 0), none⟩,
            ⟨some 21, .bin .lss (.t 19) (.t 20), none⟩])
          (.cond (.t 21) (.reg [
              ⟨some 22, .mv (.t 6), none⟩,
              ⟨some 23, .bin .sub (.t 22) (.c (.int .i64 1)), none⟩,
              ⟨some 6, .mv (.t 23), none⟩])
            .skip))
        (.seq (.reg [
            ⟨some 24, .mv (.t 6), none⟩,
            ⟨some 4, .mv (.t 24), none⟩])
          .ret))))), [.tmp 4]⟩

/- billing/billingref03.valid -/
def a_billingref03_valid : AF := ⟨18, (.seq (.reg [
    ⟨some 1, .boxr (.t 0), none⟩,
    ⟨some 2, .mv (.c (.bool false)), none⟩])
  (.seq (.reg [
      ⟨some 3, .fa (.t 1) 0 none, none⟩,
      ⟨some 4, .ld (.t 3) none false none, none⟩,
      ⟨some 5, .bin .geq (.t 4) (.c (.int .i64 0)), none⟩,
      ⟨some 6, .mv (.t 5), none⟩,
      ⟨some 7, .fa (.t 1) 0 none, some (6, true)⟩,
      ⟨some 8, .ld (.t 7) none false none, some (6, true)⟩,
      ⟨some 9, .fa (.t 1) 1 none, some (6, true)⟩,
      ⟨some 10, .ld (.t 9) none false none, some (6, true)⟩,
      ⟨some 11, .bin .lss (.t 8) (.t 10), some (6, true)⟩,
      ⟨some 12, .pick (.t 6) (.t 11) (.c (.bool false)), none⟩,
      ⟨some 13, .mv (.t 12), none⟩,
      ⟨some 14, .fa (.t 1) 1 none, some (13, true)⟩,
      ⟨some 15, .ld (.t 14) none false none, some (13, true)⟩,
      ⟨some 16, .bin .leq (.t 15) (.c (.int .i64 12622780800)), some (13, true)⟩,
      ⟨some 17, .pick (.t 13) (.t 16) (.c (.bool false)), none⟩,
      ⟨some 2, .mv (.t 17), none⟩])
    .ret)), [.tmp 2]⟩

/- billing/billingref03.number -/
def billingref03_number_l1b : AC := (.seq (.seq (.reg [
      ⟨some 5, .mv (.t 4), none⟩,
      ⟨some 6, .mv (.t 0), none⟩,
      ⟨some 7, .len true (.t 6) none, none⟩,
      ⟨some 8, .bin .lss (.t 5) (.t 7), none⟩])
    (.cond (.t 8) .skip
      (.exit 0)))
  (.seq (.blk 1 (.seq (.seq (.reg [
            ⟨some 11, .mv (.t 0), none⟩,
            ⟨some 12, .mv (.t 4), none⟩,
            ⟨some 13, .idx (.t 11) (.t 12) none 1 false, none⟩,
            ⟨some 14, .bin .lss (.t 13) (.c (.int .u8 48)), none⟩,
            ⟨some 15, .mv (.t 14), none⟩,
            ⟨some 16, .mv (.t 0), some (15, false)⟩,
            ⟨some 17, .mv (.t 4), some (15, false)⟩,
            ⟨some 18, .idx (.t 16) (.t 17) none 1 false, some (15, false)⟩,
            ⟨some 19, .bin .gtr (.t 18) (.c (.int .u8 57)), some (15, false)⟩,
            ⟨some 20, .pick (.t 15) (.c (.bool true)) (.t 19), none⟩])
          (.cond (.t 20) (.seq (.reg [
                ⟨some 2, .mv (.c (.int .i64 (-1))), none⟩])
              .ret)
            .skip))
        (.reg [
          ⟨some 21, .mv (.t 3), none⟩,
          ⟨some 22, .bin .mul (.t 21) (.c (.int .i64 10)), none⟩,
          ⟨some 23, .mv (.t 0), none⟩,
          ⟨some 24, .mv (.t 4), none⟩,
          ⟨some 25, .idx (.t 23) (.t 24) none 1 false, none⟩,
          ⟨some 26, .bin .sub (.t 25) (.c (.int .u8 48)), none⟩,
          ⟨some 27, .cvi .i64 (.t 26), none⟩,
          ⟨some 28, .bin .add (.t 22) (.t 27), none⟩,
          ⟨some 3, .mv (.t 28), none⟩])))
    (.reg [
      ⟨some 9, .mv (.t 4), none⟩,
      ⟨some 10, .bin .add (.t 9) (.c (.int .i64 1)), none⟩,
      ⟨some 4, .mv (.t 10), none⟩])))
def billingref03_number_l1 : AC := .pre [false, false, true, false, false, true, true, true, true, true, true, true, true, true, true, true, true, true, true, true, true, true, true, true, true, true, true, true, true] billingref03_number_l1b
@[go_sem] theorem billingref03_number_l1_go {M : Mach} {k : List It} {s : St} {Q : Ex → St → Prop} : Run M (.c (.loop billingref03_number_l1) :: k) .norm s Q ↔ Run M (.c billingref03_number_l1b :: .lp billingref03_number_l1 :: k) .norm { s with t := killM [false, false, true, false, false, true, true, true, true, true, true, true, true, true, true, true, true, true, true, true, true, true, true, true, true, true, true, true, true] [false, false, true, false, false, true, true, true, true, true, true, true, true, true, true, true, true, true, true, true, true, true, true, true, true, true, true, true, true] s.t } Q := run_loop_pre
@[go_sem] theorem billingref03_number_l1_lp {M : Mach} {k : List It} {s : St} {Q : Ex → St → Prop} : Run M (.lp billingref03_number_l1 :: k) .norm s Q ↔ Run M (.c billingref03_number_l1b :: .lp billingref03_number_l1 :: k) .norm { s with t := killM [false, false, true, false, false, true, true, true, true, true, true, true, true, true, true, true, true, true, true, true, true, true, true, true, true, true, true, true, true] [false, false, true, false, false, true, true, true, true, true, true, true, true, true, true, true, true, true, true, true, true, true, true, true, true, true, true, true, true] s.t } Q := run_loop_pre
def a_billingref03_number : AF := ⟨30, (.seq (.reg [
    ⟨some 2, .mv (.c (.int .i64 0)), none⟩])
  (.seq (.reg [
      ⟨some 3, .mv (.c (.int .i64 0)), none⟩])
    (.seq (.seq (.reg [
          ⟨some 4, .mv (.c (.int .i64 0)), none⟩])
        (.blk 0 (.loop billingref03_number_l1)))
      (.pre [true, false, true, false, true, true, true, true, true, true, true, true, true, true, true, true, true, true, true, true, true, true, true, true, true, true, true, true, true] (.seq (.reg [
          ⟨some 29, .mv (.t 3), none⟩,
          ⟨some 2, .mv (.t 29), none⟩])
        .ret))))), [.tmp 2]⟩

/- billing/billingref03.digits -/
def billingref03_digits_l1b : AC := (.seq (.seq (.reg [
      ⟨some 7, .mv (.t 6), none⟩,
      ⟨some 8, .mv (.t 1), none⟩,
      ⟨some 9, .bin .lss (.t 7) (.t 8), none⟩])
    (.cond (.t 9) .skip
      (.exit 0)))
  (.seq (.blk 1 (.seq (.reg [
          ⟨some 12, .mv (.t 0), none⟩,
          ⟨some 13, .bin .rem (.t 12) (.c (.int .i64 10)), none⟩,
          ⟨some 14, .bin .add (.c (.int .i64 48)) (.t 13), none⟩,
          ⟨some 15, .cvi .u8 (.t 14), none⟩,
          ⟨some 16, .bsl 1 1 (.int .u8 0) [(0, (.t 15))], none⟩,
          ⟨some 17, .cvs (.t 16) none, none⟩,
          ⟨some 18, .mv (.t 5), none⟩,
          ⟨some 19, .bin .add (.t 17) (.t 18), none⟩,
          ⟨some 5, .mv (.t 19), none⟩])
        (.reg [
          ⟨some 20, .mv (.t 0), none⟩,
          ⟨some 21, .bin .quo (.t 20) (.c (.int .i64 10)), none⟩,
          ⟨some 0, .mv (.t 21), none⟩])))
    (.reg [
      ⟨some 10, .mv (.t 6), none⟩,
      ⟨some 11, .bin .add (.t 10) (.c (.int .i64 1)), none⟩,
      ⟨some 6, .mv (.t 11), none⟩])))
def billingref03_digits_l1 : AC := .pre [false, false, false, false, false, false, false, true, true, true, true, true, true, true, true, true, true, true, true, true, true, true] billingref03_digits_l1b
@[go_sem] theorem billingref03_digits_l1_go {M : Mach} {k : List It} {s : St} {Q : Ex → St → Prop} : Run M (.c (.loop billingref03_digits_l1) :: k) .norm s Q ↔ Run M (.c billingref03_digits_l1b :: .lp billingref03_digits_l1 :: k) .norm { s with t := killM [false, false, false, false, false, false, false, true, true, true, true, true, true, true, true, true, true, true, true, true, true, true] [false, false, false, false, false, false, false, true, true, true, true, true, true, true, true, true, true, true, true, true, true, true] s.t } Q := run_loop_pre
@[go_sem] theorem billingref03_digits_l1_lp {M : Mach} {k : List It} {s : St} {Q : Ex → St → Prop} : Run M (.lp billingref03_digits_l1 :: k) .norm s Q ↔ Run M (.c billingref03_digits_l1b :: .lp billingref03_digits_l1 :: k) .norm { s with t := killM [false, false, false, false, false, false, false, true, true, true, true, true, true, true, true, true, true, true, true, true, true, true] [false, false, false, false, false, false, false, true, true, true, true, true, true, true, true, true, true, true, true, true, true, true] s.t } Q := run_loop_pre
def a_billingref03_digits : AF := ⟨23, (.seq (.reg [
    ⟨some 4, .mv (.c (.str [])), none⟩])
  (.seq (.reg [
      ⟨some 5, .mv (.c (.str [])), none⟩])
    (.seq (.seq (.reg [
          ⟨some 6, .mv (.c (.int .i64 0)), none⟩])
        (.blk 0 (.pre [false, false, false, false, true] (.loop billingref03_digits_l1))))
      (.pre [true, true, false, false, true, false, true, true, true, true, true, true, true, true, true, true, true, true, true, true, true, true] (.seq (.reg [
          ⟨some 22, .mv (.t 5), none⟩,
          ⟨some 4, .mv (.t 22), none⟩])
        .ret))))), [.tmp 4]⟩

/- billing/calendar.leap -/
def a_calendar_leap : AF := ⟨16, (.seq (.reg [
    ⟨some 2, .mv (.c (.bool false)), none⟩])
  (.seq (.reg [
      ⟨some 3, .mv (.t 0), none⟩,
      ⟨some 4, .bin .rem (.t 3) (.c (.int .i64 4)), none⟩,
      ⟨some 5, .bin .eql (.t 4) (.c (.int .i64 0)), none⟩,
      ⟨some 6, .mv (.t 5), none⟩,
      ⟨some 7, .mv (.t 0), some (6, true)⟩,
      ⟨some 8, .bin .rem (.t 7) (.c (.int .i64 100)), some (6, true)⟩,
      ⟨some 9, .bin .neq (.t 8) (.c (.int .i64 0)), some (6, true)⟩,
      ⟨some 10, .pick (.t 6) (.t 9) (.c (.bool false)), none⟩,
      ⟨some 11, .mv (.t 10), none⟩,
      ⟨some 12, .mv (.t 0), some (11, false)⟩,
      ⟨some 13, .bin .rem (.t 12) (.c (.int .i64 400)), some (11, false)⟩,
      ⟨some 14, .bin .eql (.t 13) (.c (.int .i64 0)), some (11, false)⟩,
      ⟨some 15, .pick (.t 11) (.c (.bool true)) (.t 14), none⟩,
      ⟨some 2, .mv (.t 15), none⟩])
    .ret)), [.tmp 2]⟩

/- billing/calendar.begin -/
def a_calendar_begin : AF := ⟨23, (.seq (.reg [
    ⟨some 4, .mv (.c (.int .i64 0)), none⟩])
  (.seq (.reg [
      ⟨some 8, .mv (.t 1), none⟩,
      ⟨some 9, .bin .quo (.t 8) (.c (.int .i64 12)), none⟩,
      ⟨some 10, .bin .add (.c (.int .i64 2000)) (.t 9), none⟩,
      ⟨some 11, .mv (.t 1), none⟩,
      ⟨some 12, .bin .rem (.t 11) (.c (.int .i64 12)), none⟩,
      ⟨some 13, .bin .add (.t 12) (.c (.int .i64 1)), none⟩,
      ⟨some 14, .mv (.t 0), none⟩,
      ⟨some 15, .build [(.int .i64 0), (.int .i64 0), (.int .i64 0)] [(0, 1, (.t 10)), (1, 1, (.t 13)), (2, 1, (.t 14))], none⟩,
      ⟨some 16, .call n_calendar_Day [((.t 15), false)] false, none⟩,
      ⟨some 7, .mv (.t 16), none⟩,
      ⟨some 17, .ext 7 0, none⟩,
      ⟨some 18, .ext 7 1, none⟩,
      ⟨some 5, .mv (.t 17), none⟩,
      ⟨some 6, .mv (.t 18), none⟩])
    (.seq (.seq (.reg [
          ⟨some 19, .mv (.t 6), none⟩,
          ⟨some 20, .bin .neq (.t 19) (.c (.int .i64 0)), none⟩])
        (.cond (.t 20) (.seq (.reg [
              ⟨some 4, .mv (.c (.int .i64 12622780800)), none⟩])
            .ret)
          .skip))
      (.seq (.reg [
          ⟨some 21, .mv (.t 5), none⟩,
          ⟨some 22, .bin .mul (.t 21) (.c (.int .i64 86400)), none⟩,
          ⟨some 4, .mv (.t 22), none⟩])
        .ret)))), [.tmp 4]⟩

def ft : FuncId → Option AF
  | 3 => some a_billinglaw03_CalendarDays
  | 4 => some a_billinglaw03_CalendarDates
  | 5 => some a_billinglaw03_CalendarBack
  | 6 => some a_billinglaw03_CalendarCycles
  | 7 => some a_billinglaw03_CalendarTiles
  | 8 => some a_billinglaw03_CalendarPrints
  | 9 => some a_calendar_Day
  | 10 => some a_billingref03_Day
  | 11 => some a_calendar_Length
  | 12 => some a_billingref03_Length
  | 13 => some a_billinglaw03_awake
  | 14 => some a_calendar_Date
  | 15 => some a_billingref03_Date
  | 16 => some a_calendar_Weekday
  | 17 => some a_billingref03_Weekday
  | 18 => some a_calendar_Parse
  | 19 => some a_calendar_Print
  | 20 => some a_calendar_Cycle
  | 21 => some a_billingref03_Cycle
  | 22 => some a_billinglaw03_short
  | 23 => some a_billinglaw03_same
  | 24 => some a_calendar_Cycles
  | 25 => some a_billingref03_Cycles
  | 26 => some a_billingref03_Parse
  | 27 => some a_billingref03_Print
  | 28 => some a_calendar_before
  | 29 => some a_calendar_days
  | 30 => some a_billingref03_before
  | 31 => some a_billingref03_leap
  | 32 => some a_billingref03_year
  | 33 => some a_calendar_digits
  | 34 => some a_calendar_cycle
  | 35 => some a_calendar_month
  | 36 => some a_billingref03_valid
  | 37 => some a_billingref03_number
  | 38 => some a_billingref03_digits
  | 39 => some a_calendar_leap
  | 40 => some a_calendar_begin
  | _ => none

end Go.Am
