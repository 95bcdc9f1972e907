import Derived.Test.YtbnjembcmddjoaaAm3
namespace Go.Am
def n_billinglaw07_CodecNumbers : FuncId := 3
def n_billinglaw07_CodecApart : FuncId := 4
def n_billinglaw07_CodecTexts : FuncId := 5
def n_billinglaw07_CodecReads : FuncId := 6
def n_billinglaw08_FrameSums : FuncId := 7
def n_billinglaw08_FrameAlls : FuncId := 8
def n_billinglaw08_FrameUnwraps : FuncId := 9
def n_billinglaw08_FrameChanged : FuncId := 10
def n_billinglaw08_FrameWraps : FuncId := 11
def n_billinglaw08_FrameLong : FuncId := 12
def n_billinglaw08_FrameBack : FuncId := 13
def n_billinglaw08_FrameTorn : FuncId := 14
def n_billinglaw07_CodecRecords : FuncId := 15
def n_billinglaw07_CodecCut : FuncId := 16
def n_billinglaw07_CodecBack : FuncId := 17
def n_billinglaw07_CodecOnly : FuncId := 18
def n_billingref07_Same : FuncId := 19
def n_codec_PutNumber : FuncId := 20
def n_billingref07_PutNumber : FuncId := 21
def n_billinglaw07_alive : FuncId := 22
def n_codec_PutText : FuncId := 23
def n_codec_PutNumbers : FuncId := 24
def n_codec_PutRecord : FuncId := 25
def n_codec_Number : FuncId := 26
def n_codec_Text : FuncId := 27
def n_billingref07_Text : FuncId := 28
def n_billingref07_PutText : FuncId := 29
def n_billingref07_Number : FuncId := 30
def n_codec_Numbers : FuncId := 31
def n_billingref07_Numbers : FuncId := 32
def n_billingref07_SameInts : FuncId := 33
def n_frame_Sum : FuncId := 34
def n_billingref08_Sum : FuncId := 35
def n_billinglaw08_alive : FuncId := 36
def n_frame_All : FuncId := 37
def n_billingref08_All : FuncId := 38
def n_billingref08_SameAll : FuncId := 39
def n_frame_Unwrap : FuncId := 40
def n_billingref08_Unwrap : FuncId := 41
def n_frame_Wrap : FuncId := 42
def n_billinglaw08_few : FuncId := 43
def n_billingref08_Wrap : FuncId := 44
def n_frame_Join : FuncId := 45
def n_billingref08_Join : FuncId := 46
def n_codec_Record : FuncId := 47
def n_billingref07_Record : FuncId := 48
def n_billingref07_PutRecord : FuncId := 49
def n_codec_add : FuncId := 50
def n_codec_grown : FuncId := 51
def n_billingref07_join : FuncId := 52
def n_billingref07_Bytes : FuncId := 53
def n_codec_truth : FuncId := 54
def n_codec_scan : FuncId := 55
def n_codec_rest : FuncId := 56
def n_codec_length : FuncId := 57
def n_billingref07_length : FuncId := 58
def n_frame_locate : FuncId := 59
def n_frame_copied : FuncId := 60
def n_frame_wrap : FuncId := 61
def n_codec_source_number : FuncId := 62
def n_codec_source_text : FuncId := 63
def n_codec_source_flag : FuncId := 64
def n_billingref07_reader_number : FuncId := 65
def n_billingref07_reader_text : FuncId := 66
def n_billingref07_reader_truth : FuncId := 67
def n_billingref07_truth : FuncId := 68
def n_codec_zigzag : FuncId := 69
def n_codec_back : FuncId := 70

/- billing/billinglaw07.CodecNumbers -/
def a_billinglaw07_CodecNumbers : AF := ⟨20, (.seq (.reg [
    ⟨some 4, .mv (.c (.bool false)), none⟩])
  (.seq (.reg [
      ⟨some 5, .cp (.t 0), none⟩,
      ⟨some 6, .len false (.t 5) (some 0), none⟩,
      ⟨some 7, .bin .gtr (.t 6) (.c (.int .i64 100)), none⟩,
      ⟨some 8, .mv (.t 7), none⟩,
      ⟨some 9, .mv (.t 0), some (8, false)⟩,
      ⟨some 10, .mv (.t 1), some (8, false)⟩,
      ⟨some 11, .call n_codec_PutNumber [((.t 9), false), ((.t 10), false)] false, some (8, false)⟩,
      ⟨none, .cm 11, none⟩,
      ⟨some 12, .mv (.t 0), some (8, false)⟩,
      ⟨some 13, .mv (.t 1), some (8, false)⟩,
      ⟨some 14, .call n_billingref07_PutNumber [((.t 12), false), ((.t 13), false)] false, some (8, false)⟩,
      ⟨none, .cm 14, none⟩,
      ⟨none, .cm 11, none⟩,
      ⟨none, .cm 14, none⟩,
      ⟨some 15, .call n_billingref07_Same [((.t 11), false), ((.t 14), false)] false, some (8, false)⟩,
      ⟨some 16, .pick (.t 8) (.c (.bool true)) (.t 15), none⟩,
      ⟨some 17, .mv (.t 16), none⟩,
      ⟨some 18, .call n_billinglaw07_alive [] false, some (17, true)⟩,
      ⟨some 19, .pick (.t 17) (.t 18) (.c (.bool false)), none⟩,
      ⟨some 4, .mv (.t 19), none⟩])
    .ret)), [.tmp 4]⟩

/- billing/billinglaw07.CodecApart -/
def billinglaw07_CodecApart_l1b : AC := (.seq (.seq (.reg [
      ⟨some 42, .mv (.t 9), none⟩,
      ⟨some 43, .al 7, none⟩,
      ⟨some 44, .len false (.t 43) (some 7), none⟩,
      ⟨some 45, .bin .lss (.t 42) (.t 44), none⟩])
    (.cond (.t 45) .skip
      (.exit 0)))
  (.seq (.blk 1 (.reg [
        ⟨some 48, .al 7, none⟩,
        ⟨some 49, .mv (.t 9), none⟩,
        ⟨some 50, .ia (.t 48) (.t 49) 1 none (some 7), none⟩,
        ⟨none, .st (.t 50) (.c (.int .u8 99)) 1 false (some 7), none⟩]))
    (.reg [
      ⟨some 46, .mv (.t 9), none⟩,
      ⟨some 47, .bin .add (.t 46) (.c (.int .i64 1)), none⟩,
      ⟨some 9, .mv (.t 47), none⟩])))
def billinglaw07_CodecApart_l1 : AC := .pre [false, false, false, false, false, false, false, false, false, false, false, false, false, false, false, false, false, false, false, false, false, false, false, false, false, false, false, false, false, false, false, false, false, false, false, false, false, false, false, false, false, false, true, true, true, true, true, true, true, true, true] billinglaw07_CodecApart_l1b
@[go_sem] theorem billinglaw07_CodecApart_l1_go {M : Mach} {k : List It} {s : St} {Q : Ex → St → Prop} : Run M (.c (.loop billinglaw07_CodecApart_l1) :: k) .norm s Q ↔ Run M (.c billinglaw07_CodecApart_l1b :: .lp billinglaw07_CodecApart_l1 :: k) .norm { s with t := killM [false, false, false, false, false, false, false, false, false, false, false, false, false, false, false, false, false, false, false, false, false, false, false, false, false, false, false, false, false, false, false, false, false, false, false, false, false, false, false, false, false, false, true, true, true, true, true, true, true, true, true] [false, false, false, false, false, false, false, false, false, false, false, false, false, false, false, false, false, false, false, false, false, false, false, false, false, false, false, false, false, false, false, false, false, false, false, false, false, false, false, false, false, false, true, true, true, true, true, true, true, true, true] s.t } Q := run_loop_pre
@[go_sem] theorem billinglaw07_CodecApart_l1_lp {M : Mach} {k : List It} {s : St} {Q : Ex → St → Prop} : Run M (.lp billinglaw07_CodecApart_l1 :: k) .norm s Q ↔ Run M (.c billinglaw07_CodecApart_l1b :: .lp billinglaw07_CodecApart_l1 :: k) .norm { s with t := killM [false, false, false, false, false, false, false, false, false, false, false, false, false, false, false, false, false, false, false, false, false, false, false, false, false, false, false, false, false, false, false, false, false, false, false, false, false, false, false, false, false, false, true, true, true, true, true, true, true, true, true] [false, false, false, false, false, false, false, false, false, false, false, false, false, false, false, false, false, false, false, false, false, false, false, false, false, false, false, false, false, false, false, false, false, false, false, false, false, false, false, false, false, false, true, true, true, true, true, true, true, true, true] s.t } Q := run_loop_pre
def billinglaw07_CodecApart_l2b : AC := (.seq (.seq (.reg [
      ⟨some 51, .mv (.t 10), none⟩,
      ⟨some 52, .al 5, none⟩,
      ⟨some 53, .len false (.t 52) (some 5), none⟩,
      ⟨some 54, .bin .lss (.t 51) (.t 53), none⟩])
    (.cond (.t 54) .skip
      (.exit 2)))
  (.seq (.blk 3 (.seq (.reg [
          ⟨some 57, .al 5, none⟩,
          ⟨some 58, .mv (.t 10), none⟩,
          ⟨some 59, .ia (.t 57) (.t 58) 1 none (some 5), none⟩,
          ⟨some 60, .ld (.t 59) none false none, none⟩,
          ⟨some 61, .mv (.t 10), none⟩,
          ⟨some 62, .bin .add (.t 61) (.c (.int .i64 1)), none⟩,
          ⟨some 63, .cvi .u8 (.t 62), none⟩,
          ⟨some 64, .bin .neq (.t 60) (.t 63), none⟩])
        (.cond (.t 64) (.seq (.reg [
              ⟨some 4, .mv (.c (.bool false)), none⟩])
            .ret)
          .skip)))
    (.reg [
      ⟨some 55, .mv (.t 10), none⟩,
      ⟨some 56, .bin .add (.t 55) (.c (.int .i64 1)), none⟩,
      ⟨some 10, .mv (.t 56), none⟩])))
def billinglaw07_CodecApart_l2 : AC := .pre [false, false, false, false, true, false, false, false, false, false, false, false, false, false, false, false, false, false, false, false, false, false, false, false, false, false, false, false, false, false, false, false, false, false, false, false, false, false, false, false, false, false, false, false, false, false, false, false, false, false, false, true, true, true, true, true, true, true, true, true, true, true, true, true, true] billinglaw07_CodecApart_l2b
@[go_sem] theorem billinglaw07_CodecApart_l2_go {M : Mach} {k : List It} {s : St} {Q : Ex → St → Prop} : Run M (.c (.loop billinglaw07_CodecApart_l2) :: k) .norm s Q ↔ Run M (.c billinglaw07_CodecApart_l2b :: .lp billinglaw07_CodecApart_l2 :: k) .norm { s with t := killM [false, false, false, false, true, false, false, false, false, false, false, false, false, false, false, false, false, false, false, false, false, false, false, false, false, false, false, false, false, false, false, false, false, false, false, false, false, false, false, false, false, false, false, false, false, false, false, false, false, false, false, true, true, true, true, true, true, true, true, true, true, true, true, true, true] [false, false, false, false, true, false, false, false, false, false, false, false, false, false, false, false, false, false, false, false, false, false, false, false, false, false, false, false, false, false, false, false, false, false, false, false, false, false, false, false, false, false, false, false, false, false, false, false, false, false, false, true, true, true, true, true, true, true, true, true, true, true, true, true, true] s.t } Q := run_loop_pre
@[go_sem] theorem billinglaw07_CodecApart_l2_lp {M : Mach} {k : List It} {s : St} {Q : Ex → St → Prop} : Run M (.lp billinglaw07_CodecApart_l2 :: k) .norm s Q ↔ Run M (.c billinglaw07_CodecApart_l2b :: .lp billinglaw07_CodecApart_l2 :: k) .norm { s with t := killM [false, false, false, false, true, false, false, false, false, false, false, false, false, false, false, false, false, false, false, false, false, false, false, false, false, false, false, false, false, false, false, false, false, false, false, false, false, false, false, false, false, false, false, false, false, false, false, false, false, false, false, true, true, true, true, true, true, true, true, true, true, true, true, true, true] [false, false, false, false, true, false, false, false, false, false, false, false, false, false, false, false, false, false, false, false, false, false, false, false, false, false, false, false, false, false, false, false, false, false, false, false, false, false, false, false, false, false, false, false, false, false, false, false, false, false, false, true, true, true, true, true, true, true, true, true, true, true, true, true, true] s.t } Q := run_loop_pre
def a_billinglaw07_CodecApart : AF := ⟨75, (.seq (.reg [
    ⟨some 4, .mv (.c (.bool false)), none⟩])
  (.seq (.seq (.reg [
        ⟨some 11, .mv (.t 1), none⟩,
        ⟨some 12, .len true (.t 11) none, none⟩,
        ⟨some 13, .bin .gtr (.t 12) (.c (.int .i64 100)), none⟩])
      (.cond (.t 13) (.seq (.reg [
            ⟨some 14, .call n_billinglaw07_alive [] false, none⟩,
            ⟨some 4, .mv (.t 14), none⟩])
          .ret)
        .skip))
    (.seq (.reg [
        ⟨some 15, .bsl 1 16 (.int .u8 0) [(0, (.c (.int .u8 1))), (1, (.c (.int .u8 2))), (2, (.c (.int .u8 3))), (3, (.c (.int .u8 4))), (4, (.c (.int .u8 5))), (5, (.c (.int .u8 6))), (6, (.c (.int .u8 7))), (7, (.c (.int .u8 8))), (8, (.c (.int .u8 9))), (9, (.c (.int .u8 10))), (10, (.c (.int .u8 11))), (11, (.c (.int .u8 12))), (12, (.c (.int .u8 13))), (13, (.c (.int .u8 14))), (14, (.c (.int .u8 15))), (15, (.c (.int .u8 16)))], none⟩,
        ⟨some 5, .mv (.t 15), none⟩,
        ⟨none, .cm 5, none⟩])
      (.seq (.reg [
          ⟨none, .cm 5, none⟩,
          ⟨some 16, .cp (.t 5), none⟩,
          ⟨none, .cm 16, none⟩,
          ⟨some 17, .slc (some 1) (.t 16) none (some (.c (.int .i64 1))) none, none⟩,
          ⟨some 18, .mv (.t 0), none⟩,
          ⟨some 19, .call n_codec_PutNumber [((.t 17), false), ((.t 18), false)] false, none⟩,
          ⟨none, .cm 19, none⟩])
        (.seq (.reg [
            ⟨none, .cm 5, none⟩,
            ⟨some 20, .cp (.t 5), none⟩,
            ⟨none, .cm 20, none⟩,
            ⟨some 21, .slc (some 1) (.t 20) none (some (.c (.int .i64 1))) none, none⟩,
            ⟨some 22, .mv (.t 1), none⟩,
            ⟨some 23, .call n_codec_PutText [((.t 21), false), ((.t 22), false)] false, none⟩,
            ⟨none, .cm 23, none⟩])
          (.seq (.reg [
              ⟨none, .cm 5, none⟩,
              ⟨some 24, .cp (.t 5), none⟩,
              ⟨none, .cm 24, none⟩,
              ⟨some 25, .slc (some 1) (.t 24) none (some (.c (.int .i64 1))) none, none⟩,
              ⟨some 26, .mv (.t 0), none⟩,
              ⟨some 27, .mv (.t 0), none⟩,
              ⟨some 28, .bsl 1 2 (.int .i64 0) [(0, (.t 26)), (1, (.t 27))], none⟩,
              ⟨none, .cm 28, none⟩,
              ⟨some 29, .call n_codec_PutNumbers [((.t 25), false), ((.t 28), false)] false, none⟩,
              ⟨none, .cm 29, none⟩])
            (.seq (.reg [
                ⟨none, .cm 5, none⟩,
                ⟨some 30, .cp (.t 5), none⟩,
                ⟨none, .cm 30, none⟩,
                ⟨some 31, .slc (some 1) (.t 30) none (some (.c (.int .i64 1))) none, none⟩,
                ⟨some 32, .mv (.t 0), none⟩,
                ⟨some 33, .mv (.t 1), none⟩,
                ⟨some 34, .build [(.int .i64 0), (.int .i64 0), (.int .i64 0), (.str []), (.str []), (.int .i64 0), (.int .i64 0), (.int .i64 0), (.int .i64 0), (.bool false), (.int .i64 0), (.bool false)] [(5, 1, (.t 32)), (3, 1, (.t 33))], none⟩,
                ⟨some 35, .call n_codec_PutRecord [((.t 31), false), ((.t 34), false)] false, none⟩,
                ⟨none, .cm 35, none⟩])
              (.seq (.reg [
                  ⟨none, .cm 5, none⟩,
                  ⟨some 37, .cp (.t 5), none⟩,
                  ⟨none, .cm 37, none⟩,
                  ⟨some 38, .call n_codec_Number [((.t 37), false)] false, none⟩,
                  ⟨some 36, .mv (.t 38), none⟩,
                  ⟨some 39, .ext 36 0, none⟩,
                  ⟨some 40, .ext 36 1, none⟩,
                  ⟨some 41, .ext 36 2, none⟩,
                  ⟨some 6, .mv (.t 39), none⟩,
                  ⟨some 7, .mv (.t 40), none⟩,
                  ⟨some 8, .mv (.t 41), none⟩])
                (.seq (.seq (.reg [
                      ⟨some 9, .mv (.c (.int .i64 0)), none⟩])
                    (.blk 0 (.pre [true, true, false, false, true, false, true, false, false, false, false, true, true, true, true, true, true, true, true, true, true, true, true, true, true, true, true, true, true, true, true, true, true, true, true, true, true, true, true, true, true, true] (.loop billinglaw07_CodecApart_l1))))
                  (.pre [true, true, false, false, true, false, true, false, false, true, false, true, true, true, true, true, true, true, true, true, true, true, true, true, true, true, true, true, true, true, true, true, true, true, true, true, true, true, true, true, true, true, true, true, true, true, true, true, true, true, true] (.seq (.seq (.reg [
                        ⟨some 10, .mv (.c (.int .i64 0)), none⟩])
                      (.blk 2 (.loop billinglaw07_CodecApart_l2)))
                    (.pre [false, false, false, false, true, true, false, false, false, false, true, false, false, false, false, false, false, false, false, false, false, false, false, false, false, false, false, false, false, false, false, false, false, false, false, false, false, false, false, false, false, false, false, false, false, false, false, false, false, false, false, true, true, true, true, true, true, true, true, true, true, true, true, true, true] (.seq (.reg [
                        ⟨some 65, .mv (.t 8), none⟩,
                        ⟨some 66, .bin .eql (.t 65) (.c (.int .i64 0)), none⟩,
                        ⟨some 67, .mv (.t 66), none⟩,
                        ⟨some 68, .al 7, some (67, true)⟩,
                        ⟨some 69, .len false (.t 68) (some 7), some (67, true)⟩,
                        ⟨some 70, .bin .eql (.t 69) (.c (.int .i64 15)), some (67, true)⟩,
                        ⟨some 71, .pick (.t 67) (.t 70) (.c (.bool false)), none⟩,
                        ⟨some 72, .mv (.t 71), none⟩,
                        ⟨some 73, .call n_billinglaw07_alive [] false, some (72, true)⟩,
                        ⟨some 74, .pick (.t 72) (.t 73) (.c (.bool false)), none⟩,
                        ⟨some 4, .mv (.t 74), none⟩])
                      .ret))))))))))))), [.tmp 4]⟩

/- billing/billinglaw07.CodecTexts -/
def a_billinglaw07_CodecTexts : AF := ⟨57, (.seq (.reg [
    ⟨some 4, .mv (.c (.bool false)), none⟩])
  (.seq (.seq (.reg [
        ⟨some 11, .cp (.t 0), none⟩,
        ⟨some 12, .len false (.t 11) (some 0), none⟩,
        ⟨some 13, .bin .gtr (.t 12) (.c (.int .i64 300)), none⟩,
        ⟨some 14, .mv (.t 13), none⟩,
        ⟨some 15, .mv (.t 1), some (14, false)⟩,
        ⟨some 16, .len true (.t 15) none, some (14, false)⟩,
        ⟨some 17, .bin .gtr (.t 16) (.c (.int .i64 300)), some (14, false)⟩,
        ⟨some 18, .pick (.t 14) (.c (.bool true)) (.t 17), none⟩])
      (.cond (.t 18) (.seq (.reg [
            ⟨some 19, .call n_billinglaw07_alive [] false, none⟩,
            ⟨some 4, .mv (.t 19), none⟩])
          .ret)
        .skip))
    (.seq (.reg [
        ⟨some 21, .mv (.t 0), none⟩,
        ⟨some 22, .call n_codec_Text [((.t 21), false)] false, none⟩,
        ⟨some 20, .mv (.t 22), none⟩,
        ⟨some 23, .ext 20 0, none⟩,
        ⟨some 24, .ext 20 1, none⟩,
        ⟨none, .cm 24, none⟩,
        ⟨some 25, .ext 20 2, none⟩,
        ⟨some 5, .mv (.t 23), none⟩,
        ⟨some 6, .mv (.t 24), none⟩,
        ⟨none, .cm 6, none⟩,
        ⟨some 7, .mv (.t 25), none⟩])
      (.seq (.reg [
          ⟨some 27, .mv (.t 0), none⟩,
          ⟨some 28, .call n_billingref07_Text [((.t 27), false)] false, none⟩,
          ⟨some 26, .mv (.t 28), none⟩,
          ⟨some 29, .ext 26 0, none⟩,
          ⟨some 30, .ext 26 1, none⟩,
          ⟨none, .cm 30, none⟩,
          ⟨some 31, .ext 26 2, none⟩,
          ⟨some 8, .mv (.t 29), none⟩,
          ⟨some 9, .mv (.t 30), none⟩,
          ⟨none, .cm 9, none⟩,
          ⟨some 10, .mv (.t 31), none⟩])
        (.seq (.reg [
            ⟨some 32, .mv (.t 5), none⟩,
            ⟨some 33, .mv (.t 8), none⟩,
            ⟨some 34, .bin .eql (.t 32) (.t 33), none⟩,
            ⟨some 35, .mv (.t 34), none⟩,
            ⟨none, .cm 6, none⟩,
            ⟨some 36, .cp (.t 6), some (35, true)⟩,
            ⟨none, .cm 9, none⟩,
            ⟨some 37, .cp (.t 9), some (35, true)⟩,
            ⟨none, .cm 36, none⟩,
            ⟨none, .cm 37, none⟩,
            ⟨some 38, .call n_billingref07_Same [((.t 36), false), ((.t 37), false)] false, some (35, true)⟩,
            ⟨some 39, .pick (.t 35) (.t 38) (.c (.bool false)), none⟩,
            ⟨some 40, .mv (.t 39), none⟩,
            ⟨some 41, .mv (.t 7), some (40, true)⟩,
            ⟨some 42, .mv (.t 10), some (40, true)⟩,
            ⟨some 43, .bin .eql (.t 41) (.t 42), some (40, true)⟩,
            ⟨some 44, .pick (.t 40) (.t 43) (.c (.bool false)), none⟩,
            ⟨some 45, .mv (.t 44), none⟩,
            ⟨some 46, .mv (.t 0), some (45, true)⟩,
            ⟨some 47, .mv (.t 1), some (45, true)⟩,
            ⟨some 48, .call n_codec_PutText [((.t 46), false), ((.t 47), false)] false, some (45, true)⟩,
            ⟨none, .cm 48, none⟩,
            ⟨some 49, .mv (.t 0), some (45, true)⟩,
            ⟨some 50, .mv (.t 1), some (45, true)⟩,
            ⟨some 51, .call n_billingref07_PutText [((.t 49), false), ((.t 50), false)] false, some (45, true)⟩,
            ⟨none, .cm 51, none⟩,
            ⟨none, .cm 48, none⟩,
            ⟨none, .cm 51, none⟩,
            ⟨some 52, .call n_billingref07_Same [((.t 48), false), ((.t 51), false)] false, some (45, true)⟩,
            ⟨some 53, .pick (.t 45) (.t 52) (.c (.bool false)), none⟩,
            ⟨some 54, .mv (.t 53), none⟩,
            ⟨some 55, .call n_billinglaw07_alive [] false, some (54, true)⟩,
            ⟨some 56, .pick (.t 54) (.t 55) (.c (.bool false)), none⟩,
            ⟨some 4, .mv (.t 56), none⟩])
          .ret))))), [.tmp 4]⟩

/- billing/billinglaw07.CodecReads -/
def a_billinglaw07_CodecReads : AF := ⟨73, (.seq (.reg [
    ⟨some 2, .mv (.c (.bool false)), none⟩])
  (.seq (.seq (.reg [
        ⟨some 15, .cp (.t 0), none⟩,
        ⟨some 16, .len false (.t 15) (some 0), none⟩,
        ⟨some 17, .bin .gtr (.t 16) (.c (.int .i64 300)), none⟩])
      (.cond (.t 17) (.seq (.reg [
            ⟨some 18, .call n_billinglaw07_alive [] false, none⟩,
            ⟨some 2, .mv (.t 18), none⟩])
          .ret)
        .skip))
    (.seq (.reg [
        ⟨some 20, .mv (.t 0), none⟩,
        ⟨some 21, .call n_codec_Number [((.t 20), false)] false, none⟩,
        ⟨some 19, .mv (.t 21), none⟩,
        ⟨some 22, .ext 19 0, none⟩,
        ⟨some 23, .ext 19 1, none⟩,
        ⟨none, .cm 23, none⟩,
        ⟨some 24, .ext 19 2, none⟩,
        ⟨some 3, .mv (.t 22), none⟩,
        ⟨some 4, .mv (.t 23), none⟩,
        ⟨none, .cm 4, none⟩,
        ⟨some 5, .mv (.t 24), none⟩])
      (.seq (.reg [
          ⟨some 26, .mv (.t 0), none⟩,
          ⟨some 27, .call n_billingref07_Number [((.t 26), false)] false, none⟩,
          ⟨some 25, .mv (.t 27), none⟩,
          ⟨some 28, .ext 25 0, none⟩,
          ⟨some 29, .ext 25 1, none⟩,
          ⟨none, .cm 29, none⟩,
          ⟨some 30, .ext 25 2, none⟩,
          ⟨some 6, .mv (.t 28), none⟩,
          ⟨some 7, .mv (.t 29), none⟩,
          ⟨none, .cm 7, none⟩,
          ⟨some 8, .mv (.t 30), none⟩])
        (.seq (.seq (.reg [
              ⟨some 31, .mv (.t 3), none⟩,
              ⟨some 32, .mv (.t 6), none⟩,
              ⟨some 33, .bin .neq (.t 31) (.t 32), none⟩,
              ⟨some 34, .mv (.t 33), none⟩,
              ⟨none, .cm 4, none⟩,
              ⟨some 35, .cp (.t 4), some (34, false)⟩,
              ⟨none, .cm 7, none⟩,
              ⟨some 36, .cp (.t 7), some (34, false)⟩,
              ⟨none, .cm 35, none⟩,
              ⟨none, .cm 36, none⟩,
              ⟨some 37, .call n_billingref07_Same [((.t 35), false), ((.t 36), false)] false, some (34, false)⟩,
              ⟨some 38, .un .not (.t 37), some (34, false)⟩,
              ⟨some 39, .pick (.t 34) (.c (.bool true)) (.t 38), none⟩,
              ⟨some 40, .mv (.t 39), none⟩,
              ⟨some 41, .mv (.t 5), some (40, false)⟩,
              ⟨some 42, .mv (.t 8), some (40, false)⟩,
              ⟨some 43, .bin .neq (.t 41) (.t 42), some (40, false)⟩,
              ⟨some 44, .pick (.t 40) (.c (.bool true)) (.t 43), none⟩])
            (.cond (.t 44) (.seq (.reg [
                  ⟨some 2, .mv (.c (.bool false)), none⟩])
                .ret)
              .skip))
          (.seq (.reg [
              ⟨some 46, .mv (.t 0), none⟩,
              ⟨some 47, .call n_codec_Numbers [((.t 46), false)] false, none⟩,
              ⟨some 45, .mv (.t 47), none⟩,
              ⟨some 48, .ext 45 0, none⟩,
              ⟨none, .cm 48, none⟩,
              ⟨some 49, .ext 45 1, none⟩,
              ⟨none, .cm 49, none⟩,
              ⟨some 50, .ext 45 2, none⟩,
              ⟨some 9, .mv (.t 48), none⟩,
              ⟨none, .cm 9, none⟩,
              ⟨some 10, .mv (.t 49), none⟩,
              ⟨none, .cm 10, none⟩,
              ⟨some 11, .mv (.t 50), none⟩])
            (.seq (.reg [
                ⟨some 52, .mv (.t 0), none⟩,
                ⟨some 53, .call n_billingref07_Numbers [((.t 52), false)] false, none⟩,
                ⟨some 51, .mv (.t 53), none⟩,
                ⟨some 54, .ext 51 0, none⟩,
                ⟨none, .cm 54, none⟩,
                ⟨some 55, .ext 51 1, none⟩,
                ⟨none, .cm 55, none⟩,
                ⟨some 56, .ext 51 2, none⟩,
                ⟨some 12, .mv (.t 54), none⟩,
                ⟨none, .cm 12, none⟩,
                ⟨some 13, .mv (.t 55), none⟩,
                ⟨none, .cm 13, none⟩,
                ⟨some 14, .mv (.t 56), none⟩])
              (.seq (.reg [
                  ⟨none, .cm 9, none⟩,
                  ⟨some 57, .cp (.t 9), none⟩,
                  ⟨none, .cm 12, none⟩,
                  ⟨some 58, .cp (.t 12), none⟩,
                  ⟨none, .cm 57, none⟩,
                  ⟨none, .cm 58, none⟩,
                  ⟨some 59, .call n_billingref07_SameInts [((.t 57), false), ((.t 58), false)] false, none⟩,
                  ⟨some 60, .mv (.t 59), none⟩,
                  ⟨none, .cm 10, none⟩,
                  ⟨some 61, .cp (.t 10), some (60, true)⟩,
                  ⟨none, .cm 13, none⟩,
                  ⟨some 62, .cp (.t 13), some (60, true)⟩,
                  ⟨none, .cm 61, none⟩,
                  ⟨none, .cm 62, none⟩,
                  ⟨some 63, .call n_billingref07_Same [((.t 61), false), ((.t 62), false)] false, some (60, true)⟩,
                  ⟨some 64, .pick (.t 60) (.t 63) (.c (.bool false)), none⟩,
                  ⟨some 65, .mv (.t 64), none⟩,
                  ⟨some 66, .mv (.t 11), some (65, true)⟩,
                  ⟨some 67, .mv (.t 14), some (65, true)⟩,
                  ⟨some 68, .bin .eql (.t 66) (.t 67), some (65, true)⟩,
                  ⟨some 69, .pick (.t 65) (.t 68) (.c (.bool false)), none⟩,
                  ⟨some 70, .mv (.t 69), none⟩,
                  ⟨some 71, .call n_billinglaw07_alive [] false, some (70, true)⟩,
                  ⟨some 72, .pick (.t 70) (.t 71) (.c (.bool false)), none⟩,
                  ⟨some 2, .mv (.t 72), none⟩])
                .ret)))))))), [.tmp 2]⟩

/- billing/billinglaw08.FrameSums -/
def a_billinglaw08_FrameSums : AF := ⟨16, (.seq (.reg [
    ⟨some 2, .mv (.c (.bool false)), none⟩])
  (.seq (.reg [
      ⟨some 3, .cp (.t 0), none⟩,
      ⟨some 4, .len false (.t 3) (some 0), none⟩,
      ⟨some 5, .bin .gtr (.t 4) (.c (.int .i64 5000)), none⟩,
      ⟨some 6, .mv (.t 5), none⟩,
      ⟨some 7, .mv (.t 0), some (6, false)⟩,
      ⟨some 8, .call n_frame_Sum [((.t 7), false)] false, some (6, false)⟩,
      ⟨some 9, .mv (.t 0), some (6, false)⟩,
      ⟨some 10, .call n_billingref08_Sum [((.t 9), false)] false, some (6, false)⟩,
      ⟨some 11, .bin .eql (.t 8) (.t 10), some (6, false)⟩,
      ⟨some 12, .pick (.t 6) (.c (.bool true)) (.t 11), none⟩,
      ⟨some 13, .mv (.t 12), none⟩,
      ⟨some 14, .call n_billinglaw08_alive [] false, some (13, true)⟩,
      ⟨some 15, .pick (.t 13) (.t 14) (.c (.bool false)), none⟩,
      ⟨some 2, .mv (.t 15), none⟩])
    .ret)), [.tmp 2]⟩

/- billing/billinglaw08.FrameAlls -/
def a_billinglaw08_FrameAlls : AF := ⟨32, (.seq (.reg [
    ⟨some 2, .mv (.c (.bool false)), none⟩])
  (.seq (.seq (.reg [
        ⟨some 7, .cp (.t 0), none⟩,
        ⟨some 8, .len false (.t 7) (some 0), none⟩,
        ⟨some 9, .bin .gtr (.t 8) (.c (.int .i64 600)), none⟩])
      (.cond (.t 9) (.seq (.reg [
            ⟨some 10, .call n_billinglaw08_alive [] false, none⟩,
            ⟨some 2, .mv (.t 10), none⟩])
          .ret)
        .skip))
    (.seq (.reg [
        ⟨some 12, .mv (.t 0), none⟩,
        ⟨some 13, .call n_frame_All [((.t 12), false)] false, none⟩,
        ⟨some 11, .mv (.t 13), none⟩,
        ⟨some 14, .ext 11 0, none⟩,
        ⟨none, .cm 14, none⟩,
        ⟨some 15, .ext 11 1, none⟩,
        ⟨some 3, .mv (.t 14), none⟩,
        ⟨none, .cm 3, none⟩,
        ⟨some 4, .mv (.t 15), none⟩])
      (.seq (.reg [
          ⟨some 17, .mv (.t 0), none⟩,
          ⟨some 18, .call n_billingref08_All [((.t 17), false)] false, none⟩,
          ⟨some 16, .mv (.t 18), none⟩,
          ⟨some 19, .ext 16 0, none⟩,
          ⟨none, .cm 19, none⟩,
          ⟨some 20, .ext 16 1, none⟩,
          ⟨some 5, .mv (.t 19), none⟩,
          ⟨none, .cm 5, none⟩,
          ⟨some 6, .mv (.t 20), none⟩])
        (.seq (.reg [
            ⟨none, .cm 3, none⟩,
            ⟨some 21, .cp (.t 3), none⟩,
            ⟨none, .cm 5, none⟩,
            ⟨some 22, .cp (.t 5), none⟩,
            ⟨none, .cm 21, none⟩,
            ⟨none, .cm 22, none⟩,
            ⟨some 23, .call n_billingref08_SameAll [((.t 21), false), ((.t 22), false)] false, none⟩,
            ⟨some 24, .mv (.t 23), none⟩,
            ⟨some 25, .mv (.t 4), some (24, true)⟩,
            ⟨some 26, .mv (.t 6), some (24, true)⟩,
            ⟨some 27, .bin .eql (.t 25) (.t 26), some (24, true)⟩,
            ⟨some 28, .pick (.t 24) (.t 27) (.c (.bool false)), none⟩,
            ⟨some 29, .mv (.t 28), none⟩,
            ⟨some 30, .call n_billinglaw08_alive [] false, some (29, true)⟩,
            ⟨some 31, .pick (.t 29) (.t 30) (.c (.bool false)), none⟩,
            ⟨some 2, .mv (.t 31), none⟩])
          .ret))))), [.tmp 2]⟩

/- billing/billinglaw08.FrameUnwraps -/
def a_billinglaw08_FrameUnwraps : AF := ⟨41, (.seq (.reg [
    ⟨some 2, .mv (.c (.bool false)), none⟩])
  (.seq (.seq (.reg [
        ⟨some 9, .cp (.t 0), none⟩,
        ⟨some 10, .len false (.t 9) (some 0), none⟩,
        ⟨some 11, .bin .gtr (.t 10) (.c (.int .i64 600)), none⟩])
      (.cond (.t 11) (.seq (.reg [
            ⟨some 12, .call n_billinglaw08_alive [] false, none⟩,
            ⟨some 2, .mv (.t 12), none⟩])
          .ret)
        .skip))
    (.seq (.reg [
        ⟨some 14, .mv (.t 0), none⟩,
        ⟨some 15, .call n_frame_Unwrap [((.t 14), false)] false, none⟩,
        ⟨some 13, .mv (.t 15), none⟩,
        ⟨some 16, .ext 13 0, none⟩,
        ⟨none, .cm 16, none⟩,
        ⟨some 17, .ext 13 1, none⟩,
        ⟨none, .cm 17, none⟩,
        ⟨some 18, .ext 13 2, none⟩,
        ⟨some 3, .mv (.t 16), none⟩,
        ⟨none, .cm 3, none⟩,
        ⟨some 4, .mv (.t 17), none⟩,
        ⟨none, .cm 4, none⟩,
        ⟨some 5, .mv (.t 18), none⟩])
      (.seq (.reg [
          ⟨some 20, .mv (.t 0), none⟩,
          ⟨some 21, .call n_billingref08_Unwrap [((.t 20), false)] false, none⟩,
          ⟨some 19, .mv (.t 21), none⟩,
          ⟨some 22, .ext 19 0, none⟩,
          ⟨none, .cm 22, none⟩,
          ⟨some 23, .ext 19 1, none⟩,
          ⟨none, .cm 23, none⟩,
          ⟨some 24, .ext 19 2, none⟩,
          ⟨some 6, .mv (.t 22), none⟩,
          ⟨none, .cm 6, none⟩,
          ⟨some 7, .mv (.t 23), none⟩,
          ⟨none, .cm 7, none⟩,
          ⟨some 8, .mv (.t 24), none⟩])
        (.seq (.reg [
            ⟨none, .cm 3, none⟩,
            ⟨some 25, .cp (.t 3), none⟩,
            ⟨none, .cm 6, none⟩,
            ⟨some 26, .cp (.t 6), none⟩,
            ⟨none, .cm 25, none⟩,
            ⟨none, .cm 26, none⟩,
            ⟨some 27, .call n_billingref07_Same [((.t 25), false), ((.t 26), false)] false, none⟩,
            ⟨some 28, .mv (.t 27), none⟩,
            ⟨none, .cm 4, none⟩,
            ⟨some 29, .cp (.t 4), some (28, true)⟩,
            ⟨none, .cm 7, none⟩,
            ⟨some 30, .cp (.t 7), some (28, true)⟩,
            ⟨none, .cm 29, none⟩,
            ⟨none, .cm 30, none⟩,
            ⟨some 31, .call n_billingref07_Same [((.t 29), false), ((.t 30), false)] false, some (28, true)⟩,
            ⟨some 32, .pick (.t 28) (.t 31) (.c (.bool false)), none⟩,
            ⟨some 33, .mv (.t 32), none⟩,
            ⟨some 34, .mv (.t 5), some (33, true)⟩,
            ⟨some 35, .mv (.t 8), some (33, true)⟩,
            ⟨some 36, .bin .eql (.t 34) (.t 35), some (33, true)⟩,
            ⟨some 37, .pick (.t 33) (.t 36) (.c (.bool false)), none⟩,
            ⟨some 38, .mv (.t 37), none⟩,
            ⟨some 39, .call n_billinglaw08_alive [] false, some (38, true)⟩,
            ⟨some 40, .pick (.t 38) (.t 39) (.c (.bool false)), none⟩,
            ⟨some 2, .mv (.t 40), none⟩])
          .ret))))), [.tmp 2]⟩

/- billing/billinglaw08.FrameChanged -/
def a_billinglaw08_FrameChanged : AF := ⟨79, (.seq (.reg [
    ⟨some 6, .mv (.c (.bool false)), none⟩])
  (.seq (.seq (.reg [
        ⟨some 14, .cp (.t 0), none⟩,
        ⟨some 15, .len false (.t 14) (some 0), none⟩,
        ⟨some 16, .bin .gtr (.t 15) (.c (.int .i64 60)), none⟩])
      (.cond (.t 16) (.seq (.reg [
            ⟨some 17, .call n_billinglaw08_alive [] false, none⟩,
            ⟨some 6, .mv (.t 17), none⟩])
          .ret)
        .skip))
    (.seq (.reg [
        ⟨some 19, .mv (.t 0), none⟩,
        ⟨some 20, .call n_frame_Wrap [((.t 19), false)] false, none⟩,
        ⟨some 18, .mv (.t 20), none⟩,
        ⟨some 21, .ext 18 0, none⟩,
        ⟨some 22, .ext 18 1, none⟩,
        ⟨some 7, .mv (.t 21), none⟩,
        ⟨some 8, .mv (.t 22), none⟩])
      (.seq (.seq (.reg [
            ⟨some 23, .mv (.t 8), none⟩,
            ⟨some 24, .bin .neq (.t 23) (.c (.int .i64 0)), none⟩,
            ⟨some 25, .mv (.t 24), none⟩,
            ⟨some 26, .al 7, some (25, false)⟩,
            ⟨some 27, .len false (.t 26) (some 7), some (25, false)⟩,
            ⟨some 28, .cp (.t 0), some (25, false)⟩,
            ⟨some 29, .len false (.t 28) (some 0), some (25, false)⟩,
            ⟨some 30, .bin .add (.c (.int .i64 5)) (.t 29), some (25, false)⟩,
            ⟨some 31, .bin .neq (.t 27) (.t 30), some (25, false)⟩,
            ⟨some 32, .pick (.t 25) (.c (.bool true)) (.t 31), none⟩])
          (.cond (.t 32) (.seq (.reg [
                ⟨some 6, .mv (.c (.bool false)), none⟩])
              .ret)
            .skip))
        (.seq (.reg [
            ⟨some 33, .al 7, none⟩,
            ⟨some 34, .mv (.t 1), none⟩,
            ⟨some 35, .cvi .i64 (.t 34), none⟩,
            ⟨some 36, .al 7, none⟩,
            ⟨some 37, .len false (.t 36) (some 7), none⟩,
            ⟨some 38, .bin .sub (.t 37) (.c (.int .i64 1)), none⟩,
            ⟨some 39, .bin .rem (.t 35) (.t 38), none⟩,
            ⟨some 40, .bin .add (.c (.int .i64 1)) (.t 39), none⟩,
            ⟨some 41, .ia (.t 33) (.t 40) 1 none (some 7), none⟩,
            ⟨some 42, .ld (.t 41) none false (some 7), none⟩,
            ⟨some 43, .mv (.t 2), none⟩,
            ⟨some 44, .bin .rem (.t 43) (.c (.int .u8 255)), none⟩,
            ⟨some 45, .bin .add (.c (.int .u8 1)) (.t 44), none⟩,
            ⟨some 46, .bin .xor (.t 42) (.t 45), none⟩,
            ⟨some 47, .ia (.t 33) (.t 40) 1 none (some 7), none⟩,
            ⟨none, .st (.t 47) (.t 46) 1 false (some 7), none⟩])
          (.seq (.reg [
              ⟨none, .cm 7, none⟩,
              ⟨some 49, .cp (.t 7), none⟩,
              ⟨none, .cm 49, none⟩,
              ⟨some 50, .call n_frame_Unwrap [((.t 49), false)] false, none⟩,
              ⟨some 48, .mv (.t 50), none⟩,
              ⟨some 51, .ext 48 0, none⟩,
              ⟨none, .cm 51, none⟩,
              ⟨some 52, .ext 48 1, none⟩,
              ⟨none, .cm 52, none⟩,
              ⟨some 53, .ext 48 2, none⟩,
              ⟨some 9, .mv (.t 51), none⟩,
              ⟨none, .cm 9, none⟩,
              ⟨some 10, .mv (.t 52), none⟩,
              ⟨none, .cm 10, none⟩,
              ⟨some 11, .mv (.t 53), none⟩])
            (.seq (.reg [
                ⟨none, .cm 7, none⟩,
                ⟨some 55, .cp (.t 7), none⟩,
                ⟨none, .cm 55, none⟩,
                ⟨some 56, .call n_frame_All [((.t 55), false)] false, none⟩,
                ⟨some 54, .mv (.t 56), none⟩,
                ⟨some 57, .ext 54 0, none⟩,
                ⟨none, .cm 57, none⟩,
                ⟨some 58, .ext 54 1, none⟩,
                ⟨some 12, .mv (.t 57), none⟩,
                ⟨none, .cm 12, none⟩,
                ⟨some 13, .mv (.t 58), none⟩])
              (.seq (.reg [
                  ⟨some 59, .mv (.t 11), none⟩,
                  ⟨some 60, .bin .eql (.t 59) (.c (.int .i64 4)), none⟩,
                  ⟨some 61, .mv (.t 60), none⟩,
                  ⟨some 62, .al 9, some (61, true)⟩,
                  ⟨some 63, .len false (.t 62) (some 9), some (61, true)⟩,
                  ⟨some 64, .al 10, some (61, true)⟩,
                  ⟨some 65, .len false (.t 64) (some 10), some (61, true)⟩,
                  ⟨some 66, .bin .add (.t 63) (.t 65), some (61, true)⟩,
                  ⟨some 67, .al 12, some (61, true)⟩,
                  ⟨some 68, .len false (.t 67) (some 12), some (61, true)⟩,
                  ⟨some 69, .bin .add (.t 66) (.t 68), some (61, true)⟩,
                  ⟨some 70, .bin .eql (.t 69) (.c (.int .i64 0)), some (61, true)⟩,
                  ⟨some 71, .pick (.t 61) (.t 70) (.c (.bool false)), none⟩,
                  ⟨some 72, .mv (.t 71), none⟩,
                  ⟨some 73, .mv (.t 13), some (72, true)⟩,
                  ⟨some 74, .bin .eql (.t 73) (.c (.int .i64 0)), some (72, true)⟩,
                  ⟨some 75, .pick (.t 72) (.t 74) (.c (.bool false)), none⟩,
                  ⟨some 76, .mv (.t 75), none⟩,
                  ⟨some 77, .call n_billinglaw08_alive [] false, some (76, true)⟩,
                  ⟨some 78, .pick (.t 76) (.t 77) (.c (.bool false)), none⟩,
                  ⟨some 6, .mv (.t 78), none⟩])
                .ret)))))))), [.tmp 6]⟩

/- billing/billinglaw08.FrameWraps -/
def billinglaw08_FrameWraps_l1b : AC := (.seq (.seq (.reg [
      ⟨some 16, .mv (.t 3), none⟩,
      ⟨some 17, .cp (.t 0), none⟩,
      ⟨some 18, .len false (.t 17) (some 0), none⟩,
      ⟨some 19, .bin .lss (.t 16) (.t 18), none⟩])
    (.cond (.t 19) .skip
      (.exit 0)))
  (.seq (.blk 1 (.seq (.reg [
          ⟨some 23, .cp (.t 0), none⟩,
          ⟨some 24, .mv (.t 3), none⟩,
          ⟨some 25, .ia (.t 23) (.t 24) 1 none (some 0), none⟩,
          ⟨some 26, .ld (.t 25) none false none, none⟩,
          ⟨some 27, .call n_frame_Wrap [((.t 26), false)] false, none⟩,
          ⟨some 22, .mv (.t 27), none⟩,
          ⟨some 28, .ext 22 0, none⟩,
          ⟨none, .cm 28, none⟩,
          ⟨some 29, .ext 22 1, none⟩,
          ⟨some 4, .mv (.t 28), none⟩,
          ⟨none, .cm 4, none⟩,
          ⟨some 5, .mv (.t 29), none⟩])
        (.seq (.reg [
            ⟨some 31, .cp (.t 0), none⟩,
            ⟨some 32, .mv (.t 3), none⟩,
            ⟨some 33, .ia (.t 31) (.t 32) 1 none (some 0), none⟩,
            ⟨some 34, .ld (.t 33) none false none, none⟩,
            ⟨some 35, .call n_billingref08_Wrap [((.t 34), false)] false, none⟩,
            ⟨some 30, .mv (.t 35), none⟩,
            ⟨some 36, .ext 30 0, none⟩,
            ⟨none, .cm 36, none⟩,
            ⟨some 37, .ext 30 1, none⟩,
            ⟨some 6, .mv (.t 36), none⟩,
            ⟨none, .cm 6, none⟩,
            ⟨some 7, .mv (.t 37), none⟩])
          (.seq (.reg [
              ⟨none, .cm 4, none⟩,
              ⟨some 38, .cp (.t 4), none⟩,
              ⟨none, .cm 6, none⟩,
              ⟨some 39, .cp (.t 6), none⟩,
              ⟨none, .cm 38, none⟩,
              ⟨none, .cm 39, none⟩,
              ⟨some 40, .call n_billingref07_Same [((.t 38), false), ((.t 39), false)] false, none⟩,
              ⟨some 41, .un .not (.t 40), none⟩,
              ⟨some 42, .mv (.t 41), none⟩,
              ⟨some 43, .mv (.t 5), some (42, false)⟩,
              ⟨some 44, .mv (.t 7), some (42, false)⟩,
              ⟨some 45, .bin .neq (.t 43) (.t 44), some (42, false)⟩,
              ⟨some 46, .pick (.t 42) (.c (.bool true)) (.t 45), none⟩])
            (.cond (.t 46) (.seq (.reg [
                  ⟨some 2, .mv (.c (.bool false)), none⟩])
                .ret)
              .skip)))))
    (.reg [
      ⟨some 20, .mv (.t 3), none⟩,
      ⟨some 21, .bin .add (.t 20) (.c (.int .i64 1)), none⟩,
      ⟨some 3, .mv (.t 21), none⟩])))
def billinglaw08_FrameWraps_l1 : AC := .pre [false, false, true, false, true, true, true, true, false, false, false, false, false, false, false, false, true, true, true, true, true, true, true, true, true, true, true, true, true, true, true, true, true, true, true, true, true, true, true, true, true, true, true, true, true, true, true] billinglaw08_FrameWraps_l1b
@[go_sem] theorem billinglaw08_FrameWraps_l1_go {M : Mach} {k : List It} {s : St} {Q : Ex → St → Prop} : Run M (.c (.loop billinglaw08_FrameWraps_l1) :: k) .norm s Q ↔ Run M (.c billinglaw08_FrameWraps_l1b :: .lp billinglaw08_FrameWraps_l1 :: k) .norm { s with t := killM [false, false, true, false, true, true, true, true, false, false, false, false, false, false, false, false, true, true, true, true, true, true, true, true, true, true, true, true, true, true, true, true, true, true, true, true, true, true, true, true, true, true, true, true, true, true, true] [false, false, true, false, true, true, true, true, false, false, false, false, false, false, false, false, true, true, true, true, true, true, true, true, true, true, true, true, true, true, true, true, true, true, true, true, true, true, true, true, true, true, true, true, true, true, true] s.t } Q := run_loop_pre
@[go_sem] theorem billinglaw08_FrameWraps_l1_lp {M : Mach} {k : List It} {s : St} {Q : Ex → St → Prop} : Run M (.lp billinglaw08_FrameWraps_l1 :: k) .norm s Q ↔ Run M (.c billinglaw08_FrameWraps_l1b :: .lp billinglaw08_FrameWraps_l1 :: k) .norm { s with t := killM [false, false, true, false, true, true, true, true, false, false, false, false, false, false, false, false, true, true, true, true, true, true, true, true, true, true, true, true, true, true, true, true, true, true, true, true, true, true, true, true, true, true, true, true, true, true, true] [false, false, true, false, true, true, true, true, false, false, false, false, false, false, false, false, true, true, true, true, true, true, true, true, true, true, true, true, true, true, true, true, true, true, true, true, true, true, true, true, true, true, true, true, true, true, true] s.t } Q := run_loop_pre
def a_billinglaw08_FrameWraps : AF := ⟨68, (.seq (.reg [
    ⟨some 2, .mv (.c (.bool false)), none⟩])
  (.seq (.seq (.reg [
        ⟨some 12, .mv (.t 0), none⟩,
        ⟨some 13, .call n_billinglaw08_few [((.t 12), false)] false, none⟩,
        ⟨some 14, .un .not (.t 13), none⟩])
      (.cond (.t 14) (.seq (.reg [
            ⟨some 15, .call n_billinglaw08_alive [] false, none⟩,
            ⟨some 2, .mv (.t 15), none⟩])
          .ret)
        .skip))
    (.seq (.seq (.reg [
          ⟨some 3, .mv (.c (.int .i64 0)), none⟩])
        (.blk 0 (.pre [false, false, false, false, false, false, false, false, false, false, false, false, true, true, true, true] (.loop billinglaw08_FrameWraps_l1))))
      (.pre [false, false, true, true, true, true, true, true, false, false, false, false, true, true, true, true, true, true, true, true, true, true, true, true, true, true, true, true, true, true, true, true, true, true, true, true, true, true, true, true, true, true, true, true, true, true, true] (.seq (.reg [
          ⟨some 48, .mv (.t 0), none⟩,
          ⟨some 49, .call n_frame_Join [((.t 48), false)] false, none⟩,
          ⟨some 47, .mv (.t 49), none⟩,
          ⟨some 50, .ext 47 0, none⟩,
          ⟨none, .cm 50, none⟩,
          ⟨some 51, .ext 47 1, none⟩,
          ⟨some 8, .mv (.t 50), none⟩,
          ⟨none, .cm 8, none⟩,
          ⟨some 9, .mv (.t 51), none⟩])
        (.seq (.reg [
            ⟨some 53, .mv (.t 0), none⟩,
            ⟨some 54, .call n_billingref08_Join [((.t 53), false)] false, none⟩,
            ⟨some 52, .mv (.t 54), none⟩,
            ⟨some 55, .ext 52 0, none⟩,
            ⟨none, .cm 55, none⟩,
            ⟨some 56, .ext 52 1, none⟩,
            ⟨some 10, .mv (.t 55), none⟩,
            ⟨none, .cm 10, none⟩,
            ⟨some 11, .mv (.t 56), none⟩])
          (.seq (.reg [
              ⟨none, .cm 8, none⟩,
              ⟨some 57, .cp (.t 8), none⟩,
              ⟨none, .cm 10, none⟩,
              ⟨some 58, .cp (.t 10), none⟩,
              ⟨none, .cm 57, none⟩,
              ⟨none, .cm 58, none⟩,
              ⟨some 59, .call n_billingref07_Same [((.t 57), false), ((.t 58), false)] false, none⟩,
              ⟨some 60, .mv (.t 59), none⟩,
              ⟨some 61, .mv (.t 9), some (60, true)⟩,
              ⟨some 62, .mv (.t 11), some (60, true)⟩,
              ⟨some 63, .bin .eql (.t 61) (.t 62), some (60, true)⟩,
              ⟨some 64, .pick (.t 60) (.t 63) (.c (.bool false)), none⟩,
              ⟨some 65, .mv (.t 64), none⟩,
              ⟨some 66, .call n_billinglaw08_alive [] false, some (65, true)⟩,
              ⟨some 67, .pick (.t 65) (.t 66) (.c (.bool false)), none⟩,
              ⟨some 2, .mv (.t 67), none⟩])
            .ret))))))), [.tmp 2]⟩

/- billing/billinglaw08.FrameLong -/
def a_billinglaw08_FrameLong : AF := ⟨63, (.seq (.reg [
    ⟨some 2, .mv (.c (.bool false)), none⟩])
  (.seq (.reg [
      ⟨some 8, .mv (.t 0), none⟩,
      ⟨some 9, .cvi .i64 (.t 8), none⟩,
      ⟨some 10, .bin .add (.c (.int .i64 1048576)) (.t 9), none⟩,
      ⟨some 11, .mk 1 1 (.int .u8 0) (.t 10) (.t 10), none⟩,
      ⟨none, .cm 11, none⟩,
      ⟨none, .cm 11, none⟩,
      ⟨some 12, .call n_frame_Wrap [((.t 11), false)] false, none⟩,
      ⟨some 7, .mv (.t 12), none⟩,
      ⟨some 13, .ext 7 0, none⟩,
      ⟨none, .cm 13, none⟩,
      ⟨some 14, .ext 7 1, none⟩,
      ⟨some 3, .mv (.t 13), none⟩,
      ⟨none, .cm 3, none⟩,
      ⟨some 4, .mv (.t 14), none⟩])
    (.seq (.reg [
        ⟨some 16, .bsl 1 1 (.int .u8 0) [(0, (.c (.int .u8 1)))], none⟩,
        ⟨some 17, .mv (.t 0), none⟩,
        ⟨some 18, .cvi .i64 (.t 17), none⟩,
        ⟨some 19, .bin .add (.c (.int .i64 1048576)) (.t 18), none⟩,
        ⟨some 20, .mk 1 1 (.int .u8 0) (.t 19) (.t 19), none⟩,
        ⟨none, .cm 20, none⟩,
        ⟨none, .cm 16, none⟩,
        ⟨none, .cm 20, none⟩,
        ⟨some 21, .bsl 1 2 (.sl false 1 []) [(0, (.t 16)), (1, (.t 20))], none⟩,
        ⟨none, .cm 21, none⟩,
        ⟨some 22, .call n_frame_Join [((.t 21), false)] false, none⟩,
        ⟨some 15, .mv (.t 22), none⟩,
        ⟨some 23, .ext 15 0, none⟩,
        ⟨none, .cm 23, none⟩,
        ⟨some 24, .ext 15 1, none⟩,
        ⟨some 5, .mv (.t 23), none⟩,
        ⟨none, .cm 5, none⟩,
        ⟨some 6, .mv (.t 24), none⟩])
      (.seq (.seq (.reg [
            ⟨some 25, .mv (.t 0), none⟩,
            ⟨some 26, .bin .gtr (.t 25) (.c (.int .u8 0)), none⟩])
          (.cond (.t 26) (.seq (.reg [
                ⟨some 27, .mv (.t 4), none⟩,
                ⟨some 28, .bin .eql (.t 27) (.c (.int .i64 5)), none⟩,
                ⟨some 29, .mv (.t 28), none⟩,
                ⟨some 30, .mv (.t 6), some (29, true)⟩,
                ⟨some 31, .bin .eql (.t 30) (.c (.int .i64 5)), some (29, true)⟩,
                ⟨some 32, .pick (.t 29) (.t 31) (.c (.bool false)), none⟩,
                ⟨some 33, .mv (.t 32), none⟩,
                ⟨some 34, .al 3, some (33, true)⟩,
                ⟨some 35, .len false (.t 34) (some 3), some (33, true)⟩,
                ⟨some 36, .al 5, some (33, true)⟩,
                ⟨some 37, .len false (.t 36) (some 5), some (33, true)⟩,
                ⟨some 38, .bin .add (.t 35) (.t 37), some (33, true)⟩,
                ⟨some 39, .bin .eql (.t 38) (.c (.int .i64 0)), some (33, true)⟩,
                ⟨some 40, .pick (.t 33) (.t 39) (.c (.bool false)), none⟩,
                ⟨some 41, .mv (.t 40), none⟩,
                ⟨some 42, .call n_billinglaw08_alive [] false, some (41, true)⟩,
                ⟨some 43, .pick (.t 41) (.t 42) (.c (.bool false)), none⟩,
                ⟨some 2, .mv (.t 43), none⟩])
              .ret)
            .skip))
        (.seq (.reg [
            ⟨some 44, .mv (.t 4), none⟩,
            ⟨some 45, .bin .eql (.t 44) (.c (.int .i64 0)), none⟩,
            ⟨some 46, .mv (.t 45), none⟩,
            ⟨some 47, .mv (.t 6), some (46, true)⟩,
            ⟨some 48, .bin .eql (.t 47) (.c (.int .i64 0)), some (46, true)⟩,
            ⟨some 49, .pick (.t 46) (.t 48) (.c (.bool false)), none⟩,
            ⟨some 50, .mv (.t 49), none⟩,
            ⟨some 51, .al 3, some (50, true)⟩,
            ⟨some 52, .len false (.t 51) (some 3), some (50, true)⟩,
            ⟨some 53, .bin .eql (.t 52) (.c (.int .i64 1048584)), some (50, true)⟩,
            ⟨some 54, .pick (.t 50) (.t 53) (.c (.bool false)), none⟩,
            ⟨some 55, .mv (.t 54), none⟩,
            ⟨some 56, .al 5, some (55, true)⟩,
            ⟨some 57, .len false (.t 56) (some 5), some (55, true)⟩,
            ⟨some 58, .bin .eql (.t 57) (.c (.int .i64 1048590)), some (55, true)⟩,
            ⟨some 59, .pick (.t 55) (.t 58) (.c (.bool false)), none⟩,
            ⟨some 60, .mv (.t 59), none⟩,
            ⟨some 61, .call n_billinglaw08_alive [] false, some (60, true)⟩,
            ⟨some 62, .pick (.t 60) (.t 61) (.c (.bool false)), none⟩,
            ⟨some 2, .mv (.t 62), none⟩])
          .ret))))), [.tmp 2]⟩

/- billing/billinglaw08.FrameBack -/
def billinglaw08_FrameBack_l1b : AC := (.seq (.seq (.reg [
      ⟨some 37, .mv (.t 8), none⟩,
      ⟨some 38, .cp (.t 0), none⟩,
      ⟨some 39, .len false (.t 38) (some 0), none⟩,
      ⟨some 40, .bin .lss (.t 37) (.t 39), none⟩])
    (.pre [false, false, false, false, false, false, false, false, false, false, false, false, true] (.cond (.t 40) .skip
      (.exit 0))))
  (.pre [false, false, false, false, false, false, false, false, false, false, false, false, true] (.seq (.blk 1 (.seq (.reg [
          ⟨none, .cm 7, none⟩,
          ⟨some 44, .cp (.t 7), none⟩,
          ⟨none, .cm 44, none⟩,
          ⟨some 45, .call n_frame_Unwrap [((.t 44), false)] false, none⟩,
          ⟨some 43, .mv (.t 45), none⟩,
          ⟨some 46, .ext 43 0, none⟩,
          ⟨none, .cm 46, none⟩,
          ⟨some 47, .ext 43 1, none⟩,
          ⟨none, .cm 47, none⟩,
          ⟨some 48, .ext 43 2, none⟩,
          ⟨some 9, .mv (.t 46), none⟩,
          ⟨none, .cm 9, none⟩,
          ⟨some 10, .mv (.t 47), none⟩,
          ⟨none, .cm 10, none⟩,
          ⟨some 11, .mv (.t 48), none⟩])
        (.seq (.seq (.reg [
              ⟨some 49, .mv (.t 11), none⟩,
              ⟨some 50, .bin .neq (.t 49) (.c (.int .i64 0)), none⟩,
              ⟨some 51, .mv (.t 50), none⟩,
              ⟨none, .cm 9, none⟩,
              ⟨some 52, .cp (.t 9), some (51, false)⟩,
              ⟨some 53, .cp (.t 0), some (51, false)⟩,
              ⟨some 54, .mv (.t 8), some (51, false)⟩,
              ⟨some 55, .ia (.t 53) (.t 54) 1 none (some 0), some (51, false)⟩,
              ⟨some 56, .ld (.t 55) none false none, some (51, false)⟩,
              ⟨none, .cm 52, none⟩,
              ⟨some 57, .call n_billingref07_Same [((.t 52), false), ((.t 56), false)] false, some (51, false)⟩,
              ⟨some 58, .un .not (.t 57), some (51, false)⟩,
              ⟨some 59, .pick (.t 51) (.c (.bool true)) (.t 58), none⟩])
            (.cond (.t 59) (.seq (.reg [
                  ⟨some 4, .mv (.c (.bool false)), none⟩])
                (.pre [false, false, false, false, false, false, false, true] .ret))
              .skip))
          (.seq (.reg [
              ⟨none, .cm 9, none⟩,
              ⟨some 61, .cp (.t 9), none⟩,
              ⟨none, .cm 61, none⟩,
              ⟨some 62, .call n_frame_Wrap [((.t 61), false)] false, none⟩,
              ⟨some 60, .mv (.t 62), none⟩,
              ⟨some 63, .ext 60 0, none⟩,
              ⟨some 64, .ext 60 1, none⟩,
              ⟨some 12, .mv (.t 63), none⟩,
              ⟨some 13, .mv (.t 64), none⟩])
            (.seq (.reg [
                ⟨some 65, .mv (.t 12), none⟩,
                ⟨some 66, .al 10, none⟩,
                ⟨some 67, .app 1 1 (.t 65) (.t 66) (some 10), none⟩,
                ⟨some 12, .mv (.t 67), none⟩])
              (.seq (.seq (.reg [
                    ⟨some 68, .mv (.t 13), none⟩,
                    ⟨some 69, .bin .neq (.t 68) (.c (.int .i64 0)), none⟩,
                    ⟨some 70, .mv (.t 69), none⟩,
                    ⟨none, .cm 12, none⟩,
                    ⟨some 71, .cp (.t 12), some (70, false)⟩,
                    ⟨none, .cm 7, none⟩,
                    ⟨some 72, .cp (.t 7), some (70, false)⟩,
                    ⟨none, .cm 71, none⟩,
                    ⟨none, .cm 72, none⟩,
                    ⟨some 73, .call n_billingref07_Same [((.t 71), false), ((.t 72), false)] false, some (70, false)⟩,
                    ⟨some 74, .un .not (.t 73), some (70, false)⟩,
                    ⟨some 75, .pick (.t 70) (.c (.bool true)) (.t 74), none⟩])
                  (.pre [false, false, false, false, false, false, false, true, false, false, false, false, true] (.cond (.t 75) (.seq (.reg [
                        ⟨some 4, .mv (.c (.bool false)), none⟩])
                      .ret)
                    .skip)))
                (.pre [false, false, false, false, false, false, false, true, false, false, false, false, true] (.reg [
                  ⟨none, .cm 10, none⟩,
                  ⟨some 76, .cp (.t 10), none⟩,
                  ⟨some 7, .mv (.t 76), none⟩,
                  ⟨none, .cm 7, none⟩]))))))))
    (.pre [false, false, false, false, false, false, false, false, false, false, false, false, true] (.reg [
      ⟨some 41, .mv (.t 8), none⟩,
      ⟨some 42, .bin .add (.t 41) (.c (.int .i64 1)), none⟩,
      ⟨some 8, .mv (.t 42), none⟩])))))
def billinglaw08_FrameBack_l1 : AC := .pre [false, false, false, false, true, false, false, false, false, true, true, true, true, true, false, false, false, false, false, false, false, false, false, false, false, false, false, false, false, false, false, false, false, false, false, false, false, true, true, true, true, true, true, true, true, true, true, true, true, true, true, true, true, true, true, true, true, true, true, true, true, true, true, true, true, true, true, true, true, true, true, true, true, true, true, true, true] billinglaw08_FrameBack_l1b
@[go_sem] theorem billinglaw08_FrameBack_l1_go {M : Mach} {k : List It} {s : St} {Q : Ex → St → Prop} : Run M (.c (.loop billinglaw08_FrameBack_l1) :: k) .norm s Q ↔ Run M (.c billinglaw08_FrameBack_l1b :: .lp billinglaw08_FrameBack_l1 :: k) .norm { s with t := killM [false, false, false, false, true, false, false, false, false, true, true, true, true, true, false, false, false, false, false, false, false, false, false, false, false, false, false, false, false, false, false, false, false, false, false, false, false, true, true, true, true, true, true, true, true, true, true, true, true, true, true, true, true, true, true, true, true, true, true, true, true, true, true, true, true, true, true, true, true, true, true, true, true, true, true, true, true] [false, false, false, false, true, false, false, false, false, true, true, true, true, true, false, false, false, false, false, false, false, false, false, false, false, false, false, false, false, false, false, false, false, false, false, false, false, true, true, true, true, true, true, true, true, true, true, true, true, true, true, true, true, true, true, true, true, true, true, true, true, true, true, true, true, true, true, true, true, true, true, true, true, true, true, true, true] s.t } Q := run_loop_pre
@[go_sem] theorem billinglaw08_FrameBack_l1_lp {M : Mach} {k : List It} {s : St} {Q : Ex → St → Prop} : Run M (.lp billinglaw08_FrameBack_l1 :: k) .norm s Q ↔ Run M (.c billinglaw08_FrameBack_l1b :: .lp billinglaw08_FrameBack_l1 :: k) .norm { s with t := killM [false, false, false, false, true, false, false, false, false, true, true, true, true, true, false, false, false, false, false, false, false, false, false, false, false, false, false, false, false, false, false, false, false, false, false, false, false, true, true, true, true, true, true, true, true, true, true, true, true, true, true, true, true, true, true, true, true, true, true, true, true, true, true, true, true, true, true, true, true, true, true, true, true, true, true, true, true] [false, false, false, false, true, false, false, false, false, true, true, true, true, true, false, false, false, false, false, false, false, false, false, false, false, false, false, false, false, false, false, false, false, false, false, false, false, true, true, true, true, true, true, true, true, true, true, true, true, true, true, true, true, true, true, true, true, true, true, true, true, true, true, true, true, true, true, true, true, true, true, true, true, true, true, true, true] s.t } Q := run_loop_pre
def a_billinglaw08_FrameBack : AF := ⟨99, (.seq (.reg [
    ⟨some 4, .mv (.c (.bool false)), none⟩])
  (.seq (.seq (.reg [
        ⟨some 16, .mv (.t 0), none⟩,
        ⟨some 17, .call n_billinglaw08_few [((.t 16), false)] false, none⟩,
        ⟨some 18, .un .not (.t 17), none⟩,
        ⟨some 19, .mv (.t 18), none⟩,
        ⟨some 20, .cp (.t 1), some (19, false)⟩,
        ⟨some 21, .len false (.t 20) (some 1), some (19, false)⟩,
        ⟨some 22, .bin .gtr (.t 21) (.c (.int .i64 60)), some (19, false)⟩,
        ⟨some 23, .pick (.t 19) (.c (.bool true)) (.t 22), none⟩])
      (.cond (.t 23) (.seq (.reg [
            ⟨some 24, .call n_billinglaw08_alive [] false, none⟩,
            ⟨some 4, .mv (.t 24), none⟩])
          .ret)
        .skip))
    (.seq (.reg [
        ⟨some 26, .mv (.t 0), none⟩,
        ⟨some 27, .call n_frame_Join [((.t 26), false)] false, none⟩,
        ⟨some 25, .mv (.t 27), none⟩,
        ⟨some 28, .ext 25 0, none⟩,
        ⟨none, .cm 28, none⟩,
        ⟨some 29, .ext 25 1, none⟩,
        ⟨some 5, .mv (.t 28), none⟩,
        ⟨none, .cm 5, none⟩,
        ⟨some 6, .mv (.t 29), none⟩])
      (.seq (.seq (.reg [
            ⟨some 30, .mv (.t 6), none⟩,
            ⟨some 31, .bin .neq (.t 30) (.c (.int .i64 0)), none⟩])
          (.cond (.t 31) (.seq (.reg [
                ⟨some 4, .mv (.c (.bool false)), none⟩])
              .ret)
            .skip))
        (.seq (.reg [
            ⟨some 32, .bsl 1 0 (.int .u8 0) [], none⟩,
            ⟨some 33, .al 5, none⟩,
            ⟨some 34, .app 1 1 (.t 32) (.t 33) (some 5), none⟩,
            ⟨some 35, .cp (.t 1), none⟩,
            ⟨some 36, .app 1 1 (.t 34) (.t 35) (some 1), none⟩,
            ⟨none, .cm 36, none⟩,
            ⟨some 7, .mv (.t 36), none⟩,
            ⟨none, .cm 7, none⟩])
          (.seq (.seq (.reg [
                ⟨some 8, .mv (.c (.int .i64 0)), none⟩])
              (.blk 0 (.pre [false, false, false, false, false, false, true, false, false, false, false, false, false, false, false, false, true, true, true, true, true, true, true, true, true, true, true, true, true, true, true, true, true, true, true, true, true] (.loop billinglaw08_FrameBack_l1))))
            (.pre [false, false, false, false, true, false, true, false, true, true, true, true, true, true, false, false, true, true, true, true, true, true, true, true, true, true, true, true, true, true, true, true, true, true, true, true, true, true, true, true, true, true, true, true, true, true, true, true, true, true, true, true, true, true, true, true, true, true, true, true, true, true, true, true, true, true, true, true, true, true, true, true, true, true, true, true, true] (.seq (.reg [
                ⟨none, .cm 5, none⟩,
                ⟨some 78, .cp (.t 5), none⟩,
                ⟨none, .cm 78, none⟩,
                ⟨some 79, .call n_frame_All [((.t 78), false)] false, none⟩,
                ⟨some 77, .mv (.t 79), none⟩,
                ⟨some 80, .ext 77 0, none⟩,
                ⟨none, .cm 80, none⟩,
                ⟨some 81, .ext 77 1, none⟩,
                ⟨some 14, .mv (.t 80), none⟩,
                ⟨none, .cm 14, none⟩,
                ⟨some 15, .mv (.t 81), none⟩])
              (.seq (.reg [
                  ⟨none, .cm 7, none⟩,
                  ⟨some 82, .cp (.t 7), none⟩,
                  ⟨some 83, .mv (.t 1), none⟩,
                  ⟨none, .cm 82, none⟩,
                  ⟨some 84, .call n_billingref07_Same [((.t 82), false), ((.t 83), false)] false, none⟩,
                  ⟨some 85, .mv (.t 84), none⟩,
                  ⟨none, .cm 14, none⟩,
                  ⟨some 86, .cp (.t 14), some (85, true)⟩,
                  ⟨some 87, .mv (.t 0), some (85, true)⟩,
                  ⟨none, .cm 86, none⟩,
                  ⟨some 88, .call n_billingref08_SameAll [((.t 86), false), ((.t 87), false)] false, some (85, true)⟩,
                  ⟨some 89, .pick (.t 85) (.t 88) (.c (.bool false)), none⟩,
                  ⟨some 90, .mv (.t 89), none⟩,
                  ⟨some 91, .mv (.t 15), some (90, true)⟩,
                  ⟨some 92, .al 5, some (90, true)⟩,
                  ⟨some 93, .len false (.t 92) (some 5), some (90, true)⟩,
                  ⟨some 94, .bin .eql (.t 91) (.t 93), some (90, true)⟩,
                  ⟨some 95, .pick (.t 90) (.t 94) (.c (.bool false)), none⟩,
                  ⟨some 96, .mv (.t 95), none⟩,
                  ⟨some 97, .call n_billinglaw08_alive [] false, some (96, true)⟩,
                  ⟨some 98, .pick (.t 96) (.t 97) (.c (.bool false)), none⟩,
                  ⟨some 4, .mv (.t 98), none⟩])
                (.pre [false, false, false, false, false, false, false, true] .ret)))))))))), [.tmp 4]⟩

/- billing/billinglaw08.FrameTorn -/
def billinglaw08_FrameTorn_l1b : AC := (.seq (.seq (.reg [
      ⟨some 36, .mv (.t 8), none⟩,
      ⟨some 37, .cp (.t 0), none⟩,
      ⟨some 38, .len false (.t 37) (some 0), none⟩,
      ⟨some 39, .bin .lss (.t 36) (.t 38), none⟩])
    (.cond (.t 39) .skip
      (.exit 0)))
  (.blk 1 (.seq (.reg [
        ⟨some 41, .cp (.t 0), none⟩,
        ⟨some 42, .mv (.t 8), none⟩,
        ⟨some 43, .ia (.t 41) (.t 42) 1 none (some 0), none⟩,
        ⟨some 44, .ld (.t 43) none false none, none⟩,
        ⟨some 45, .call n_frame_Wrap [((.t 44), false)] false, none⟩,
        ⟨some 40, .mv (.t 45), none⟩,
        ⟨some 46, .ext 40 0, none⟩,
        ⟨none, .cm 46, none⟩,
        ⟨some 47, .ext 40 1, none⟩,
        ⟨some 10, .mv (.t 46), none⟩,
        ⟨none, .cm 10, none⟩,
        ⟨some 11, .mv (.t 47), none⟩])
      (.seq (.seq (.reg [
            ⟨some 48, .mv (.t 11), none⟩,
            ⟨some 49, .bin .neq (.t 48) (.c (.int .i64 0)), none⟩])
          (.cond (.t 49) (.seq (.reg [
                ⟨some 4, .mv (.c (.bool false)), none⟩])
              .ret)
            .skip))
        (.seq (.seq (.reg [
              ⟨some 50, .mv (.t 9), none⟩,
              ⟨some 51, .al 10, none⟩,
              ⟨some 52, .len false (.t 51) (some 10), none⟩,
              ⟨some 53, .bin .add (.t 50) (.t 52), none⟩,
              ⟨some 54, .cp (.t 7), none⟩,
              ⟨some 55, .len false (.t 54) (some 7), none⟩,
              ⟨some 56, .bin .gtr (.t 53) (.t 55), none⟩])
            (.cond (.t 56) (.exit 0)
              .skip))
          (.seq (.reg [
              ⟨some 57, .mv (.t 9), none⟩,
              ⟨some 58, .al 10, none⟩,
              ⟨some 59, .len false (.t 58) (some 10), none⟩,
              ⟨some 60, .bin .add (.t 57) (.t 59), none⟩,
              ⟨some 9, .mv (.t 60), none⟩])
            (.reg [
              ⟨some 61, .mv (.t 8), none⟩,
              ⟨some 62, .bin .add (.t 61) (.c (.int .i64 1)), none⟩,
              ⟨some 8, .mv (.t 62), none⟩])))))))
def billinglaw08_FrameTorn_l1 : AC := .pre [false, false, false, false, true, false, false, false, false, false, true, true, false, false, false, false, false, false, false, false, false, false, false, false, false, false, false, false, false, false, false, false, false, false, false, false, true, true, true, true, true, true, true, true, true, true, true, true, true, true, true, true, true, true, true, true, true, true, true, true, true, true, true] billinglaw08_FrameTorn_l1b
@[go_sem] theorem billinglaw08_FrameTorn_l1_go {M : Mach} {k : List It} {s : St} {Q : Ex → St → Prop} : Run M (.c (.loop billinglaw08_FrameTorn_l1) :: k) .norm s Q ↔ Run M (.c billinglaw08_FrameTorn_l1b :: .lp billinglaw08_FrameTorn_l1 :: k) .norm { s with t := killM [false, false, false, false, true, false, false, false, false, false, true, true, false, false, false, false, false, false, false, false, false, false, false, false, false, false, false, false, false, false, false, false, false, false, false, false, true, true, true, true, true, true, true, true, true, true, true, true, true, true, true, true, true, true, true, true, true, true, true, true, true, true, true] [false, false, false, false, true, false, false, false, false, false, true, true, false, false, false, false, false, false, false, false, false, false, false, false, false, false, false, false, false, false, false, false, false, false, false, false, true, true, true, true, true, true, true, true, true, true, true, true, true, true, true, true, true, true, true, true, true, true, true, true, true, true, true] s.t } Q := run_loop_pre
@[go_sem] theorem billinglaw08_FrameTorn_l1_lp {M : Mach} {k : List It} {s : St} {Q : Ex → St → Prop} : Run M (.lp billinglaw08_FrameTorn_l1 :: k) .norm s Q ↔ Run M (.c billinglaw08_FrameTorn_l1b :: .lp billinglaw08_FrameTorn_l1 :: k) .norm { s with t := killM [false, false, false, false, true, false, false, false, false, false, true, true, false, false, false, false, false, false, false, false, false, false, false, false, false, false, false, false, false, false, false, false, false, false, false, false, true, true, true, true, true, true, true, true, true, true, true, true, true, true, true, true, true, true, true, true, true, true, true, true, true, true, true] [false, false, false, false, true, false, false, false, false, false, true, true, false, false, false, false, false, false, false, false, false, false, false, false, false, false, false, false, false, false, false, false, false, false, false, false, true, true, true, true, true, true, true, true, true, true, true, true, true, true, true, true, true, true, true, true, true, true, true, true, true, true, true] s.t } Q := run_loop_pre
def a_billinglaw08_FrameTorn : AF := ⟨97, (.seq (.reg [
    ⟨some 4, .mv (.c (.bool false)), none⟩])
  (.seq (.seq (.reg [
        ⟨some 17, .mv (.t 0), none⟩,
        ⟨some 18, .call n_billinglaw08_few [((.t 17), false)] false, none⟩,
        ⟨some 19, .un .not (.t 18), none⟩])
      (.cond (.t 19) (.seq (.reg [
            ⟨some 20, .call n_billinglaw08_alive [] false, none⟩,
            ⟨some 4, .mv (.t 20), none⟩])
          .ret)
        .skip))
    (.seq (.reg [
        ⟨some 22, .mv (.t 0), none⟩,
        ⟨some 23, .call n_frame_Join [((.t 22), false)] false, none⟩,
        ⟨some 21, .mv (.t 23), none⟩,
        ⟨some 24, .ext 21 0, none⟩,
        ⟨none, .cm 24, none⟩,
        ⟨some 25, .ext 21 1, none⟩,
        ⟨some 5, .mv (.t 24), none⟩,
        ⟨none, .cm 5, none⟩,
        ⟨some 6, .mv (.t 25), none⟩])
      (.seq (.seq (.reg [
            ⟨some 26, .mv (.t 6), none⟩,
            ⟨some 27, .bin .neq (.t 26) (.c (.int .i64 0)), none⟩])
          (.cond (.t 27) (.seq (.reg [
                ⟨some 4, .mv (.c (.bool false)), none⟩])
              .ret)
            .skip))
        (.seq (.reg [
            ⟨none, .cm 5, none⟩,
            ⟨some 28, .cp (.t 5), none⟩,
            ⟨some 29, .mv (.t 1), none⟩,
            ⟨some 30, .cvi .i64 (.t 29), none⟩,
            ⟨some 31, .al 5, none⟩,
            ⟨some 32, .len false (.t 31) (some 5), none⟩,
            ⟨some 33, .bin .add (.t 32) (.c (.int .i64 1)), none⟩,
            ⟨some 34, .bin .rem (.t 30) (.t 33), none⟩,
            ⟨none, .cm 28, none⟩,
            ⟨some 35, .slc (some 1) (.t 28) none (some (.t 34)) none, none⟩,
            ⟨some 7, .mv (.t 35), none⟩])
          (.seq (.reg [
              ⟨some 8, .mv (.c (.int .i64 0)), none⟩,
              ⟨some 9, .mv (.c (.int .i64 0)), none⟩])
            (.seq (.blk 0 (.pre [false, true, false, false, false, true, true, false, false, false, false, false, false, false, false, false, false, true, true, true, true, true, true, true, true, true, true, true, true, true, true, true, true, true, true, true] (.loop billinglaw08_FrameTorn_l1)))
              (.pre [false, true, false, false, true, true, true, false, false, false, true, true, false, false, false, false, false, true, true, true, true, true, true, true, true, true, true, true, true, true, true, true, true, true, true, true, true, true, true, true, true, true, true, true, true, true, true, true, true, true, true, true, true, true, true, true, true, true, true, true, true, true, true] (.seq (.reg [
                  ⟨some 64, .mv (.t 7), none⟩,
                  ⟨some 65, .call n_frame_All [((.t 64), false)] false, none⟩,
                  ⟨some 63, .mv (.t 65), none⟩,
                  ⟨some 66, .ext 63 0, none⟩,
                  ⟨none, .cm 66, none⟩,
                  ⟨some 67, .ext 63 1, none⟩,
                  ⟨some 12, .mv (.t 66), none⟩,
                  ⟨none, .cm 12, none⟩,
                  ⟨some 13, .mv (.t 67), none⟩])
                (.seq (.seq (.reg [
                      ⟨some 68, .mv (.t 13), none⟩,
                      ⟨some 69, .mv (.t 9), none⟩,
                      ⟨some 70, .bin .neq (.t 68) (.t 69), none⟩,
                      ⟨some 71, .mv (.t 70), none⟩,
                      ⟨none, .cm 12, none⟩,
                      ⟨some 72, .cp (.t 12), some (71, false)⟩,
                      ⟨some 73, .mv (.t 0), some (71, false)⟩,
                      ⟨some 74, .mv (.t 8), some (71, false)⟩,
                      ⟨some 75, .slc (some 1) (.t 73) none (some (.t 74)) none, some (71, false)⟩,
                      ⟨none, .cm 72, none⟩,
                      ⟨some 76, .call n_billingref08_SameAll [((.t 72), false), ((.t 75), false)] false, some (71, false)⟩,
                      ⟨some 77, .un .not (.t 76), some (71, false)⟩,
                      ⟨some 78, .pick (.t 71) (.c (.bool true)) (.t 77), none⟩])
                    (.cond (.t 78) (.seq (.reg [
                          ⟨some 4, .mv (.c (.bool false)), none⟩])
                        .ret)
                      .skip))
                  (.seq (.seq (.reg [
                        ⟨some 79, .mv (.t 9), none⟩,
                        ⟨some 80, .cp (.t 7), none⟩,
                        ⟨some 81, .len false (.t 80) (some 7), none⟩,
                        ⟨some 82, .bin .eql (.t 79) (.t 81), none⟩])
                      (.cond (.t 82) (.seq (.reg [
                            ⟨some 83, .call n_billinglaw08_alive [] false, none⟩,
                            ⟨some 4, .mv (.t 83), none⟩])
                          .ret)
                        .skip))
                    (.seq (.reg [
                        ⟨some 85, .mv (.t 7), none⟩,
                        ⟨some 86, .mv (.t 9), none⟩,
                        ⟨some 87, .slc (some 1) (.t 85) (some (.t 86)) none none, none⟩,
                        ⟨some 88, .call n_frame_Unwrap [((.t 87), false)] false, none⟩,
                        ⟨some 84, .mv (.t 88), none⟩,
                        ⟨some 89, .ext 84 0, none⟩,
                        ⟨none, .cm 89, none⟩,
                        ⟨some 90, .ext 84 1, none⟩,
                        ⟨none, .cm 90, none⟩,
                        ⟨some 91, .ext 84 2, none⟩,
                        ⟨some 14, .mv (.t 89), none⟩,
                        ⟨none, .cm 14, none⟩,
                        ⟨some 15, .mv (.t 90), none⟩,
                        ⟨none, .cm 15, none⟩,
                        ⟨some 16, .mv (.t 91), none⟩])
                      (.seq (.reg [
                          ⟨some 92, .mv (.t 16), none⟩,
                          ⟨some 93, .bin .eql (.t 92) (.c (.int .i64 2)), none⟩,
                          ⟨some 94, .mv (.t 93), none⟩,
                          ⟨some 95, .call n_billinglaw08_alive [] false, some (94, true)⟩,
                          ⟨some 96, .pick (.t 94) (.t 95) (.c (.bool false)), none⟩,
                          ⟨some 4, .mv (.t 96), none⟩])
                        .ret))))))))))))), [.tmp 4]⟩

/- billing/billinglaw07.CodecRecords -/
def a_billinglaw07_CodecRecords : AF := ⟨64, (.seq (.reg [
    ⟨some 3, .boxr (.t 1), none⟩,
    ⟨some 4, .mv (.c (.bool false)), none⟩])
  (.seq (.seq (.reg [
        ⟨some 11, .cp (.t 0), none⟩,
        ⟨some 12, .len false (.t 11) (some 0), none⟩,
        ⟨some 13, .bin .gtr (.t 12) (.c (.int .i64 300)), none⟩,
        ⟨some 14, .mv (.t 13), none⟩,
        ⟨some 15, .fa (.t 3) 3 none, some (14, false)⟩,
        ⟨some 16, .ld (.t 15) none false none, some (14, false)⟩,
        ⟨some 17, .len true (.t 16) none, some (14, false)⟩,
        ⟨some 18, .bin .gtr (.t 17) (.c (.int .i64 100)), some (14, false)⟩,
        ⟨some 19, .pick (.t 14) (.c (.bool true)) (.t 18), none⟩,
        ⟨some 20, .mv (.t 19), none⟩,
        ⟨some 21, .fa (.t 3) 4 none, some (20, false)⟩,
        ⟨some 22, .ld (.t 21) none false none, some (20, false)⟩,
        ⟨some 23, .len true (.t 22) none, some (20, false)⟩,
        ⟨some 24, .bin .gtr (.t 23) (.c (.int .i64 100)), some (20, false)⟩,
        ⟨some 25, .pick (.t 20) (.c (.bool true)) (.t 24), none⟩])
      (.cond (.t 25) (.seq (.reg [
            ⟨some 26, .call n_billinglaw07_alive [] false, none⟩,
            ⟨some 4, .mv (.t 26), none⟩])
          .ret)
        .skip))
    (.seq (.reg [
        ⟨some 28, .mv (.t 0), none⟩,
        ⟨some 29, .call n_codec_Record [((.t 28), false)] false, none⟩,
        ⟨some 27, .mv (.t 29), none⟩,
        ⟨some 30, .ext 27 0, none⟩,
        ⟨some 31, .ext 27 1, none⟩,
        ⟨none, .cm 31, none⟩,
        ⟨some 32, .ext 27 2, none⟩,
        ⟨some 5, .newbox [(.int .i64 0), (.int .i64 0), (.int .i64 0), (.str []), (.str []), (.int .i64 0), (.int .i64 0), (.int .i64 0), (.int .i64 0), (.bool false), (.int .i64 0), (.bool false)], none⟩,
        ⟨none, .st (.t 5) (.t 30) 12 false (some 5), none⟩,
        ⟨some 6, .mv (.t 31), none⟩,
        ⟨none, .cm 6, none⟩,
        ⟨some 7, .mv (.t 32), none⟩])
      (.seq (.reg [
          ⟨some 34, .mv (.t 0), none⟩,
          ⟨some 35, .call n_billingref07_Record [((.t 34), false)] false, none⟩,
          ⟨some 33, .mv (.t 35), none⟩,
          ⟨some 36, .ext 33 0, none⟩,
          ⟨some 37, .ext 33 1, none⟩,
          ⟨none, .cm 37, none⟩,
          ⟨some 38, .ext 33 2, none⟩,
          ⟨some 8, .newbox [(.int .i64 0), (.int .i64 0), (.int .i64 0), (.str []), (.str []), (.int .i64 0), (.int .i64 0), (.int .i64 0), (.int .i64 0), (.bool false), (.int .i64 0), (.bool false)], none⟩,
          ⟨none, .st (.t 8) (.t 36) 12 false (some 8), none⟩,
          ⟨some 9, .mv (.t 37), none⟩,
          ⟨none, .cm 9, none⟩,
          ⟨some 10, .mv (.t 38), none⟩])
        (.seq (.dreg [
            ⟨some 39, .ld (.t 5) (some 12) false (some 5), none⟩,
            ⟨some 40, .ld (.t 8) (some 12) false (some 8), none⟩,
            ⟨some 41, .eqs false [0, 0, 0, 2, 2, 0, 0, 0, 0, 1, 0, 1] (.t 39) (.t 40), none⟩,
            ⟨some 42, .cp (.t 41), none⟩,
            ⟨some 43, .cp (.t 6), some (42, true)⟩,
            ⟨some 44, .cp (.t 9), some (42, true)⟩,
            ⟨some 45, .call n_billingref07_Same [((.t 43), false), ((.t 44), false)] false, some (42, true)⟩,
            ⟨some 46, .pick (.t 42) (.t 45) (.c (.bool false)), none⟩,
            ⟨some 47, .cp (.t 46), none⟩,
            ⟨some 48, .cp (.t 7), some (47, true)⟩,
            ⟨some 49, .cp (.t 10), some (47, true)⟩,
            ⟨some 50, .bin .eql (.t 48) (.t 49), some (47, true)⟩,
            ⟨some 51, .pick (.t 47) (.t 50) (.c (.bool false)), none⟩,
            ⟨some 52, .cp (.t 51), none⟩,
            ⟨some 53, .cp (.t 0), some (52, true)⟩,
            ⟨some 54, .ld (.t 3) (some 12) false none, some (52, true)⟩,
            ⟨some 55, .call n_codec_PutRecord [((.t 53), false), ((.t 54), false)] false, some (52, true)⟩,
            ⟨some 56, .cp (.t 0), some (52, true)⟩,
            ⟨some 57, .ld (.t 3) (some 12) false none, some (52, true)⟩,
            ⟨some 58, .call n_billingref07_PutRecord [((.t 56), false), ((.t 57), false)] false, some (52, true)⟩,
            ⟨some 59, .call n_billingref07_Same [((.t 55), true), ((.t 58), true)] false, some (52, true)⟩,
            ⟨some 60, .pick (.t 52) (.t 59) (.c (.bool false)), none⟩,
            ⟨some 61, .cp (.t 60), none⟩,
            ⟨some 62, .call n_billinglaw07_alive [] false, some (61, true)⟩,
            ⟨some 63, .pick (.t 61) (.t 62) (.c (.bool false)), none⟩,
            ⟨some 4, .cp (.t 63), none⟩])
          .ret))))), [.tmp 4]⟩

/- billing/billinglaw07.CodecCut -/
def a_billinglaw07_CodecCut : AF := ⟨123, (.seq (.reg [
    ⟨some 3, .boxr (.t 0), none⟩,
    ⟨some 6, .mv (.c (.bool false)), none⟩])
  (.seq (.seq (.reg [
        ⟨some 19, .fa (.t 3) 3 none, none⟩,
        ⟨some 20, .ld (.t 19) none false none, none⟩,
        ⟨some 21, .len true (.t 20) none, none⟩,
        ⟨some 22, .bin .gtr (.t 21) (.c (.int .i64 60)), none⟩,
        ⟨some 23, .mv (.t 22), none⟩,
        ⟨some 24, .fa (.t 3) 4 none, some (23, false)⟩,
        ⟨some 25, .ld (.t 24) none false none, some (23, false)⟩,
        ⟨some 26, .len true (.t 25) none, some (23, false)⟩,
        ⟨some 27, .bin .gtr (.t 26) (.c (.int .i64 60)), some (23, false)⟩,
        ⟨some 28, .pick (.t 23) (.c (.bool true)) (.t 27), none⟩,
        ⟨some 29, .mv (.t 28), none⟩,
        ⟨some 30, .cp (.t 1), some (29, false)⟩,
        ⟨some 31, .len false (.t 30) (some 1), some (29, false)⟩,
        ⟨some 32, .bin .gtr (.t 31) (.c (.int .i64 60)), some (29, false)⟩,
        ⟨some 33, .pick (.t 29) (.c (.bool true)) (.t 32), none⟩])
      (.cond (.t 33) (.seq (.reg [
            ⟨some 34, .call n_billinglaw07_alive [] false, none⟩,
            ⟨some 6, .mv (.t 34), none⟩])
          .ret)
        .skip))
    (.seq (.dreg [
        ⟨some 35, .fa (.t 3) 6 none, none⟩,
        ⟨some 36, .ld (.t 35) none false none, none⟩,
        ⟨some 37, .call n_codec_PutNumber [((.c (.sl false 1 [])), false), ((.t 36), false)] false, none⟩,
        ⟨some 38, .cp (.t 1), none⟩,
        ⟨some 39, .call n_codec_PutNumbers [((.c (.sl false 1 [])), false), ((.t 38), false)] false, none⟩,
        ⟨some 40, .ld (.t 3) (some 12) false none, none⟩,
        ⟨some 41, .call n_codec_PutRecord [((.c (.sl false 1 [])), false), ((.t 40), false)] false, none⟩,
        ⟨some 7, .mv (.t 37), none⟩,
        ⟨some 8, .mv (.t 39), none⟩,
        ⟨some 9, .mv (.t 41), none⟩])
      (.seq (.seq (.reg [
            ⟨some 42, .al 7, none⟩,
            ⟨some 43, .len false (.t 42) (some 7), none⟩,
            ⟨some 44, .bin .eql (.t 43) (.c (.int .i64 0)), none⟩,
            ⟨some 45, .mv (.t 44), none⟩,
            ⟨some 46, .al 8, some (45, false)⟩,
            ⟨some 47, .len false (.t 46) (some 8), some (45, false)⟩,
            ⟨some 48, .bin .eql (.t 47) (.c (.int .i64 0)), some (45, false)⟩,
            ⟨some 49, .pick (.t 45) (.c (.bool true)) (.t 48), none⟩,
            ⟨some 50, .mv (.t 49), none⟩,
            ⟨some 51, .al 9, some (50, false)⟩,
            ⟨some 52, .len false (.t 51) (some 9), some (50, false)⟩,
            ⟨some 53, .bin .eql (.t 52) (.c (.int .i64 0)), some (50, false)⟩,
            ⟨some 54, .pick (.t 50) (.c (.bool true)) (.t 53), none⟩])
          (.cond (.t 54) (.seq (.reg [
                ⟨some 6, .mv (.c (.bool false)), none⟩])
              .ret)
            .skip))
        (.seq (.reg [
            ⟨none, .cm 7, none⟩,
            ⟨some 56, .cp (.t 7), none⟩,
            ⟨some 57, .mv (.t 2), none⟩,
            ⟨some 58, .cvi .i64 (.t 57), none⟩,
            ⟨some 59, .al 7, none⟩,
            ⟨some 60, .len false (.t 59) (some 7), none⟩,
            ⟨some 61, .bin .rem (.t 58) (.t 60), none⟩,
            ⟨none, .cm 56, none⟩,
            ⟨some 62, .slc (some 1) (.t 56) none (some (.t 61)) none, none⟩,
            ⟨some 63, .call n_codec_Number [((.t 62), false)] false, none⟩,
            ⟨some 55, .mv (.t 63), none⟩,
            ⟨some 64, .ext 55 0, none⟩,
            ⟨some 65, .ext 55 1, none⟩,
            ⟨none, .cm 65, none⟩,
            ⟨some 66, .ext 55 2, none⟩,
            ⟨some 10, .mv (.t 64), none⟩,
            ⟨some 11, .mv (.t 65), none⟩,
            ⟨none, .cm 11, none⟩,
            ⟨some 12, .mv (.t 66), none⟩])
          (.seq (.reg [
              ⟨none, .cm 8, none⟩,
              ⟨some 68, .cp (.t 8), none⟩,
              ⟨some 69, .mv (.t 2), none⟩,
              ⟨some 70, .cvi .i64 (.t 69), none⟩,
              ⟨some 71, .al 8, none⟩,
              ⟨some 72, .len false (.t 71) (some 8), none⟩,
              ⟨some 73, .bin .rem (.t 70) (.t 72), none⟩,
              ⟨none, .cm 68, none⟩,
              ⟨some 74, .slc (some 1) (.t 68) none (some (.t 73)) none, none⟩,
              ⟨some 75, .call n_codec_Numbers [((.t 74), false)] false, none⟩,
              ⟨some 67, .mv (.t 75), none⟩,
              ⟨some 76, .ext 67 0, none⟩,
              ⟨none, .cm 76, none⟩,
              ⟨some 77, .ext 67 1, none⟩,
              ⟨none, .cm 77, none⟩,
              ⟨some 78, .ext 67 2, none⟩,
              ⟨some 13, .mv (.t 76), none⟩,
              ⟨none, .cm 13, none⟩,
              ⟨some 14, .mv (.t 77), none⟩,
              ⟨none, .cm 14, none⟩,
              ⟨some 15, .mv (.t 78), none⟩])
            (.seq (.reg [
                ⟨none, .cm 9, none⟩,
                ⟨some 80, .cp (.t 9), none⟩,
                ⟨some 81, .mv (.t 2), none⟩,
                ⟨some 82, .cvi .i64 (.t 81), none⟩,
                ⟨some 83, .al 9, none⟩,
                ⟨some 84, .len false (.t 83) (some 9), none⟩,
                ⟨some 85, .bin .rem (.t 82) (.t 84), none⟩,
                ⟨none, .cm 80, none⟩,
                ⟨some 86, .slc (some 1) (.t 80) none (some (.t 85)) none, none⟩,
                ⟨some 87, .call n_codec_Record [((.t 86), false)] false, none⟩,
                ⟨some 79, .mv (.t 87), none⟩,
                ⟨some 88, .ext 79 0, none⟩,
                ⟨some 89, .ext 79 1, none⟩,
                ⟨none, .cm 89, none⟩,
                ⟨some 90, .ext 79 2, none⟩,
                ⟨some 16, .newbox [(.int .i64 0), (.int .i64 0), (.int .i64 0), (.str []), (.str []), (.int .i64 0), (.int .i64 0), (.int .i64 0), (.int .i64 0), (.bool false), (.int .i64 0), (.bool false)], none⟩,
                ⟨none, .st (.t 16) (.t 88) 12 false (some 16), none⟩,
                ⟨some 17, .mv (.t 89), none⟩,
                ⟨none, .cm 17, none⟩,
                ⟨some 18, .mv (.t 90), none⟩])
              (.seq (.reg [
                  ⟨some 91, .mv (.t 12), none⟩,
                  ⟨some 92, .bin .eql (.t 91) (.c (.int .i64 2)), none⟩,
                  ⟨some 93, .mv (.t 92), none⟩,
                  ⟨some 94, .mv (.t 15), some (93, true)⟩,
                  ⟨some 95, .bin .eql (.t 94) (.c (.int .i64 2)), some (93, true)⟩,
                  ⟨some 96, .pick (.t 93) (.t 95) (.c (.bool false)), none⟩,
                  ⟨some 97, .mv (.t 96), none⟩,
                  ⟨some 98, .mv (.t 18), some (97, true)⟩,
                  ⟨some 99, .bin .eql (.t 98) (.c (.int .i64 2)), some (97, true)⟩,
                  ⟨some 100, .pick (.t 97) (.t 99) (.c (.bool false)), none⟩,
                  ⟨some 101, .mv (.t 100), none⟩,
                  ⟨some 102, .al 11, some (101, true)⟩,
                  ⟨some 103, .len false (.t 102) (some 11), some (101, true)⟩,
                  ⟨some 104, .al 14, some (101, true)⟩,
                  ⟨some 105, .len false (.t 104) (some 14), some (101, true)⟩,
                  ⟨some 106, .bin .add (.t 103) (.t 105), some (101, true)⟩,
                  ⟨some 107, .al 17, some (101, true)⟩,
                  ⟨some 108, .len false (.t 107) (some 17), some (101, true)⟩,
                  ⟨some 109, .bin .add (.t 106) (.t 108), some (101, true)⟩,
                  ⟨some 110, .al 13, some (101, true)⟩,
                  ⟨some 111, .len false (.t 110) (some 13), some (101, true)⟩,
                  ⟨some 112, .bin .add (.t 109) (.t 111), some (101, true)⟩,
                  ⟨some 113, .bin .eql (.t 112) (.c (.int .i64 0)), some (101, true)⟩,
                  ⟨some 114, .pick (.t 101) (.t 113) (.c (.bool false)), none⟩,
                  ⟨some 115, .mv (.t 114), none⟩,
                  ⟨some 116, .ld (.t 16) (some 12) false (some 16), some (115, true)⟩,
                  ⟨some 117, .build [(.int .i64 0), (.int .i64 0), (.int .i64 0), (.str []), (.str []), (.int .i64 0), (.int .i64 0), (.int .i64 0), (.int .i64 0), (.bool false), (.int .i64 0), (.bool false)] [], some (115, true)⟩,
                  ⟨some 118, .eqs false [0, 0, 0, 2, 2, 0, 0, 0, 0, 1, 0, 1] (.t 116) (.t 117), some (115, true)⟩,
                  ⟨some 119, .pick (.t 115) (.t 118) (.c (.bool false)), none⟩,
                  ⟨some 120, .mv (.t 119), none⟩,
                  ⟨some 121, .call n_billinglaw07_alive [] false, some (120, true)⟩,
                  ⟨some 122, .pick (.t 120) (.t 121) (.c (.bool false)), none⟩,
                  ⟨some 6, .mv (.t 122), none⟩])
                .ret)))))))), [.tmp 6]⟩

/- billing/billinglaw07.CodecBack -/
def a_billinglaw07_CodecBack : AF := ⟨135, (.seq (.reg [
    ⟨some 3, .boxr (.t 0), none⟩,
    ⟨some 6, .mv (.c (.bool false)), none⟩])
  (.seq (.seq (.reg [
        ⟨some 19, .fa (.t 3) 3 none, none⟩,
        ⟨some 20, .ld (.t 19) none false none, none⟩,
        ⟨some 21, .len true (.t 20) none, none⟩,
        ⟨some 22, .bin .gtr (.t 21) (.c (.int .i64 100)), none⟩,
        ⟨some 23, .mv (.t 22), none⟩,
        ⟨some 24, .fa (.t 3) 4 none, some (23, false)⟩,
        ⟨some 25, .ld (.t 24) none false none, some (23, false)⟩,
        ⟨some 26, .len true (.t 25) none, some (23, false)⟩,
        ⟨some 27, .bin .gtr (.t 26) (.c (.int .i64 100)), some (23, false)⟩,
        ⟨some 28, .pick (.t 23) (.c (.bool true)) (.t 27), none⟩,
        ⟨some 29, .mv (.t 28), none⟩,
        ⟨some 30, .cp (.t 1), some (29, false)⟩,
        ⟨some 31, .len false (.t 30) (some 1), some (29, false)⟩,
        ⟨some 32, .bin .gtr (.t 31) (.c (.int .i64 100)), some (29, false)⟩,
        ⟨some 33, .pick (.t 29) (.c (.bool true)) (.t 32), none⟩,
        ⟨some 34, .mv (.t 33), none⟩,
        ⟨some 35, .cp (.t 2), some (34, false)⟩,
        ⟨some 36, .len false (.t 35) (some 2), some (34, false)⟩,
        ⟨some 37, .bin .gtr (.t 36) (.c (.int .i64 100)), some (34, false)⟩,
        ⟨some 38, .pick (.t 34) (.c (.bool true)) (.t 37), none⟩])
      (.cond (.t 38) (.seq (.reg [
            ⟨some 39, .call n_billinglaw07_alive [] false, none⟩,
            ⟨some 6, .mv (.t 39), none⟩])
          .ret)
        .skip))
    (.seq (.reg [
        ⟨some 41, .fa (.t 3) 5 none, none⟩,
        ⟨some 42, .ld (.t 41) none false none, none⟩,
        ⟨some 43, .call n_codec_PutNumber [((.c (.sl false 1 [])), false), ((.t 42), false)] false, none⟩,
        ⟨some 44, .cp (.t 2), none⟩,
        ⟨some 45, .app 1 1 (.t 43) (.t 44) (some 2), none⟩,
        ⟨none, .cm 45, none⟩,
        ⟨none, .cm 45, none⟩,
        ⟨some 46, .call n_codec_Number [((.t 45), false)] false, none⟩,
        ⟨some 40, .mv (.t 46), none⟩,
        ⟨some 47, .ext 40 0, none⟩,
        ⟨some 48, .ext 40 1, none⟩,
        ⟨none, .cm 48, none⟩,
        ⟨some 49, .ext 40 2, none⟩,
        ⟨some 7, .mv (.t 47), none⟩,
        ⟨some 8, .mv (.t 48), none⟩,
        ⟨none, .cm 8, none⟩,
        ⟨some 9, .mv (.t 49), none⟩])
      (.seq (.reg [
          ⟨some 51, .fa (.t 3) 3 none, none⟩,
          ⟨some 52, .ld (.t 51) none false none, none⟩,
          ⟨some 53, .call n_codec_PutText [((.c (.sl false 1 [])), false), ((.t 52), false)] false, none⟩,
          ⟨some 54, .cp (.t 2), none⟩,
          ⟨some 55, .app 1 1 (.t 53) (.t 54) (some 2), none⟩,
          ⟨none, .cm 55, none⟩,
          ⟨none, .cm 55, none⟩,
          ⟨some 56, .call n_codec_Text [((.t 55), false)] false, none⟩,
          ⟨some 50, .mv (.t 56), none⟩,
          ⟨some 57, .ext 50 0, none⟩,
          ⟨some 58, .ext 50 1, none⟩,
          ⟨none, .cm 58, none⟩,
          ⟨some 59, .ext 50 2, none⟩,
          ⟨some 10, .mv (.t 57), none⟩,
          ⟨some 11, .mv (.t 58), none⟩,
          ⟨none, .cm 11, none⟩,
          ⟨some 12, .mv (.t 59), none⟩])
        (.seq (.reg [
            ⟨some 61, .mv (.t 1), none⟩,
            ⟨some 62, .call n_codec_PutNumbers [((.c (.sl false 1 [])), false), ((.t 61), false)] false, none⟩,
            ⟨some 63, .cp (.t 2), none⟩,
            ⟨some 64, .app 1 1 (.t 62) (.t 63) (some 2), none⟩,
            ⟨none, .cm 64, none⟩,
            ⟨none, .cm 64, none⟩,
            ⟨some 65, .call n_codec_Numbers [((.t 64), false)] false, none⟩,
            ⟨some 60, .mv (.t 65), none⟩,
            ⟨some 66, .ext 60 0, none⟩,
            ⟨none, .cm 66, none⟩,
            ⟨some 67, .ext 60 1, none⟩,
            ⟨none, .cm 67, none⟩,
            ⟨some 68, .ext 60 2, none⟩,
            ⟨some 13, .mv (.t 66), none⟩,
            ⟨none, .cm 13, none⟩,
            ⟨some 14, .mv (.t 67), none⟩,
            ⟨none, .cm 14, none⟩,
            ⟨some 15, .mv (.t 68), none⟩])
          (.seq (.reg [
              ⟨some 70, .ld (.t 3) (some 12) false none, none⟩,
              ⟨some 71, .call n_codec_PutRecord [((.c (.sl false 1 [])), false), ((.t 70), false)] false, none⟩,
              ⟨some 72, .cp (.t 2), none⟩,
              ⟨some 73, .app 1 1 (.t 71) (.t 72) (some 2), none⟩,
              ⟨none, .cm 73, none⟩,
              ⟨none, .cm 73, none⟩,
              ⟨some 74, .call n_codec_Record [((.t 73), false)] false, none⟩,
              ⟨some 69, .mv (.t 74), none⟩,
              ⟨some 75, .ext 69 0, none⟩,
              ⟨some 76, .ext 69 1, none⟩,
              ⟨none, .cm 76, none⟩,
              ⟨some 77, .ext 69 2, none⟩,
              ⟨some 16, .newbox [(.int .i64 0), (.int .i64 0), (.int .i64 0), (.str []), (.str []), (.int .i64 0), (.int .i64 0), (.int .i64 0), (.int .i64 0), (.bool false), (.int .i64 0), (.bool false)], none⟩,
              ⟨none, .st (.t 16) (.t 75) 12 false (some 16), none⟩,
              ⟨some 17, .mv (.t 76), none⟩,
              ⟨none, .cm 17, none⟩,
              ⟨some 18, .mv (.t 77), none⟩])
            (.seq (.seq (.reg [
                  ⟨some 78, .mv (.t 9), none⟩,
                  ⟨some 79, .bin .neq (.t 78) (.c (.int .i64 0)), none⟩,
                  ⟨some 80, .mv (.t 79), none⟩,
                  ⟨some 81, .mv (.t 12), some (80, false)⟩,
                  ⟨some 82, .bin .neq (.t 81) (.c (.int .i64 0)), some (80, false)⟩,
                  ⟨some 83, .pick (.t 80) (.c (.bool true)) (.t 82), none⟩,
                  ⟨some 84, .mv (.t 83), none⟩,
                  ⟨some 85, .mv (.t 15), some (84, false)⟩,
                  ⟨some 86, .bin .neq (.t 85) (.c (.int .i64 0)), some (84, false)⟩,
                  ⟨some 87, .pick (.t 84) (.c (.bool true)) (.t 86), none⟩,
                  ⟨some 88, .mv (.t 87), none⟩,
                  ⟨some 89, .mv (.t 18), some (88, false)⟩,
                  ⟨some 90, .bin .neq (.t 89) (.c (.int .i64 0)), some (88, false)⟩,
                  ⟨some 91, .pick (.t 88) (.c (.bool true)) (.t 90), none⟩])
                (.cond (.t 91) (.seq (.reg [
                      ⟨some 6, .mv (.c (.bool false)), none⟩])
                    .ret)
                  .skip))
              (.seq (.reg [
                  ⟨some 92, .mv (.t 7), none⟩,
                  ⟨some 93, .fa (.t 3) 5 none, none⟩,
                  ⟨some 94, .ld (.t 93) none false none, none⟩,
                  ⟨some 95, .bin .eql (.t 92) (.t 94), none⟩,
                  ⟨some 96, .mv (.t 95), none⟩,
                  ⟨some 97, .mv (.t 10), some (96, true)⟩,
                  ⟨some 98, .fa (.t 3) 3 none, some (96, true)⟩,
                  ⟨some 99, .ld (.t 98) none false none, some (96, true)⟩,
                  ⟨some 100, .bin .eql (.t 97) (.t 99), some (96, true)⟩,
                  ⟨some 101, .pick (.t 96) (.t 100) (.c (.bool false)), none⟩,
                  ⟨some 102, .mv (.t 101), none⟩,
                  ⟨none, .cm 13, none⟩,
                  ⟨some 103, .cp (.t 13), some (102, true)⟩,
                  ⟨some 104, .mv (.t 1), some (102, true)⟩,
                  ⟨none, .cm 103, none⟩,
                  ⟨some 105, .call n_billingref07_SameInts [((.t 103), false), ((.t 104), false)] false, some (102, true)⟩,
                  ⟨some 106, .pick (.t 102) (.t 105) (.c (.bool false)), none⟩,
                  ⟨some 107, .mv (.t 106), none⟩,
                  ⟨some 108, .ld (.t 16) (some 12) false (some 16), some (107, true)⟩,
                  ⟨some 109, .ld (.t 3) (some 12) false none, some (107, true)⟩,
                  ⟨some 110, .eqs false [0, 0, 0, 2, 2, 0, 0, 0, 0, 1, 0, 1] (.t 108) (.t 109), some (107, true)⟩,
                  ⟨some 111, .pick (.t 107) (.t 110) (.c (.bool false)), none⟩,
                  ⟨some 112, .mv (.t 111), none⟩,
                  ⟨none, .cm 8, none⟩,
                  ⟨some 113, .cp (.t 8), some (112, true)⟩,
                  ⟨some 114, .mv (.t 2), some (112, true)⟩,
                  ⟨none, .cm 113, none⟩,
                  ⟨some 115, .call n_billingref07_Same [((.t 113), false), ((.t 114), false)] false, some (112, true)⟩,
                  ⟨some 116, .pick (.t 112) (.t 115) (.c (.bool false)), none⟩,
                  ⟨some 117, .mv (.t 116), none⟩,
                  ⟨none, .cm 11, none⟩,
                  ⟨some 118, .cp (.t 11), some (117, true)⟩,
                  ⟨some 119, .mv (.t 2), some (117, true)⟩,
                  ⟨none, .cm 118, none⟩,
                  ⟨some 120, .call n_billingref07_Same [((.t 118), false), ((.t 119), false)] false, some (117, true)⟩,
                  ⟨some 121, .pick (.t 117) (.t 120) (.c (.bool false)), none⟩,
                  ⟨some 122, .mv (.t 121), none⟩,
                  ⟨none, .cm 14, none⟩,
                  ⟨some 123, .cp (.t 14), some (122, true)⟩,
                  ⟨some 124, .mv (.t 2), some (122, true)⟩,
                  ⟨none, .cm 123, none⟩,
                  ⟨some 125, .call n_billingref07_Same [((.t 123), false), ((.t 124), false)] false, some (122, true)⟩,
                  ⟨some 126, .pick (.t 122) (.t 125) (.c (.bool false)), none⟩,
                  ⟨some 127, .mv (.t 126), none⟩,
                  ⟨none, .cm 17, none⟩,
                  ⟨some 128, .cp (.t 17), some (127, true)⟩,
                  ⟨some 129, .mv (.t 2), some (127, true)⟩,
                  ⟨none, .cm 128, none⟩,
                  ⟨some 130, .call n_billingref07_Same [((.t 128), false), ((.t 129), false)] false, some (127, true)⟩,
                  ⟨some 131, .pick (.t 127) (.t 130) (.c (.bool false)), none⟩,
                  ⟨some 132, .mv (.t 131), none⟩,
                  ⟨some 133, .call n_billinglaw07_alive [] false, some (132, true)⟩,
                  ⟨some 134, .pick (.t 132) (.t 133) (.c (.bool false)), none⟩,
                  ⟨some 6, .mv (.t 134), none⟩])
                .ret)))))))), [.tmp 6]⟩

/- billing/billinglaw07.CodecOnly -/
def a_billinglaw07_CodecOnly : AF := ⟨92, (.seq (.reg [
    ⟨some 2, .mv (.c (.bool false)), none⟩])
  (.seq (.seq (.reg [
        ⟨some 15, .cp (.t 0), none⟩,
        ⟨some 16, .len false (.t 15) (some 0), none⟩,
        ⟨some 17, .bin .gtr (.t 16) (.c (.int .i64 300)), none⟩])
      (.cond (.t 17) (.seq (.reg [
            ⟨some 18, .call n_billinglaw07_alive [] false, none⟩,
            ⟨some 2, .mv (.t 18), none⟩])
          .ret)
        .skip))
    (.seq (.reg [
        ⟨some 20, .mv (.t 0), none⟩,
        ⟨some 21, .call n_codec_Number [((.t 20), false)] false, none⟩,
        ⟨some 19, .mv (.t 21), none⟩,
        ⟨some 22, .ext 19 0, none⟩,
        ⟨some 23, .ext 19 1, none⟩,
        ⟨none, .cm 23, none⟩,
        ⟨some 24, .ext 19 2, none⟩,
        ⟨some 3, .mv (.t 22), none⟩,
        ⟨some 4, .mv (.t 23), none⟩,
        ⟨none, .cm 4, none⟩,
        ⟨some 5, .mv (.t 24), none⟩])
      (.seq (.reg [
          ⟨some 26, .mv (.t 0), none⟩,
          ⟨some 27, .call n_codec_Text [((.t 26), false)] false, none⟩,
          ⟨some 25, .mv (.t 27), none⟩,
          ⟨some 28, .ext 25 0, none⟩,
          ⟨some 29, .ext 25 1, none⟩,
          ⟨none, .cm 29, none⟩,
          ⟨some 30, .ext 25 2, none⟩,
          ⟨some 6, .mv (.t 28), none⟩,
          ⟨some 7, .mv (.t 29), none⟩,
          ⟨none, .cm 7, none⟩,
          ⟨some 8, .mv (.t 30), none⟩])
        (.seq (.reg [
            ⟨some 32, .mv (.t 0), none⟩,
            ⟨some 33, .call n_codec_Numbers [((.t 32), false)] false, none⟩,
            ⟨some 31, .mv (.t 33), none⟩,
            ⟨some 34, .ext 31 0, none⟩,
            ⟨none, .cm 34, none⟩,
            ⟨some 35, .ext 31 1, none⟩,
            ⟨none, .cm 35, none⟩,
            ⟨some 36, .ext 31 2, none⟩,
            ⟨some 9, .mv (.t 34), none⟩,
            ⟨none, .cm 9, none⟩,
            ⟨some 10, .mv (.t 35), none⟩,
            ⟨none, .cm 10, none⟩,
            ⟨some 11, .mv (.t 36), none⟩])
          (.seq (.reg [
              ⟨some 38, .mv (.t 0), none⟩,
              ⟨some 39, .call n_codec_Record [((.t 38), false)] false, none⟩,
              ⟨some 37, .mv (.t 39), none⟩,
              ⟨some 40, .ext 37 0, none⟩,
              ⟨some 41, .ext 37 1, none⟩,
              ⟨none, .cm 41, none⟩,
              ⟨some 42, .ext 37 2, none⟩,
              ⟨some 12, .newbox [(.int .i64 0), (.int .i64 0), (.int .i64 0), (.str []), (.str []), (.int .i64 0), (.int .i64 0), (.int .i64 0), (.int .i64 0), (.bool false), (.int .i64 0), (.bool false)], none⟩,
              ⟨none, .st (.t 12) (.t 40) 12 false (some 12), none⟩,
              ⟨some 13, .mv (.t 41), none⟩,
              ⟨none, .cm 13, none⟩,
              ⟨some 14, .mv (.t 42), none⟩])
            (.seq (.reg [
                ⟨some 43, .mv (.t 5), none⟩,
                ⟨some 44, .bin .neq (.t 43) (.c (.int .i64 0)), none⟩,
                ⟨some 45, .mv (.t 44), none⟩,
                ⟨some 46, .mv (.t 3), some (45, false)⟩,
                ⟨some 47, .call n_codec_PutNumber [((.c (.sl false 1 [])), false), ((.t 46), false)] false, some (45, false)⟩,
                ⟨some 48, .al 4, some (45, false)⟩,
                ⟨some 49, .app 1 1 (.t 47) (.t 48) (some 4), some (45, false)⟩,
                ⟨none, .cm 49, none⟩,
                ⟨some 50, .mv (.t 0), some (45, false)⟩,
                ⟨none, .cm 49, none⟩,
                ⟨some 51, .call n_billingref07_Same [((.t 49), false), ((.t 50), false)] false, some (45, false)⟩,
                ⟨some 52, .pick (.t 45) (.c (.bool true)) (.t 51), none⟩,
                ⟨some 53, .mv (.t 52), none⟩,
                ⟨some 54, .mv (.t 8), some (53, true)⟩,
                ⟨some 55, .bin .neq (.t 54) (.c (.int .i64 0)), some (53, true)⟩,
                ⟨some 56, .mv (.t 55), some (53, true)⟩,
                ⟨some 57, .mv (.t 6), some (56, false)⟩,
                ⟨some 58, .call n_codec_PutText [((.c (.sl false 1 [])), false), ((.t 57), false)] false, some (56, false)⟩,
                ⟨some 59, .al 7, some (56, false)⟩,
                ⟨some 60, .app 1 1 (.t 58) (.t 59) (some 7), some (56, false)⟩,
                ⟨none, .cm 60, none⟩,
                ⟨some 61, .mv (.t 0), some (56, false)⟩,
                ⟨none, .cm 60, none⟩,
                ⟨some 62, .call n_billingref07_Same [((.t 60), false), ((.t 61), false)] false, some (56, false)⟩,
                ⟨some 63, .pick (.t 56) (.c (.bool true)) (.t 62), some (53, true)⟩,
                ⟨some 64, .pick (.t 53) (.t 63) (.c (.bool false)), none⟩,
                ⟨some 65, .mv (.t 64), none⟩,
                ⟨some 66, .mv (.t 11), some (65, true)⟩,
                ⟨some 67, .bin .neq (.t 66) (.c (.int .i64 0)), some (65, true)⟩,
                ⟨some 68, .mv (.t 67), some (65, true)⟩,
                ⟨none, .cm 9, none⟩,
                ⟨some 69, .cp (.t 9), some (68, false)⟩,
                ⟨none, .cm 69, none⟩,
                ⟨some 70, .call n_codec_PutNumbers [((.c (.sl false 1 [])), false), ((.t 69), false)] false, some (68, false)⟩,
                ⟨some 71, .al 10, some (68, false)⟩,
                ⟨some 72, .app 1 1 (.t 70) (.t 71) (some 10), some (68, false)⟩,
                ⟨none, .cm 72, none⟩,
                ⟨some 73, .mv (.t 0), some (68, false)⟩,
                ⟨none, .cm 72, none⟩,
                ⟨some 74, .call n_billingref07_Same [((.t 72), false), ((.t 73), false)] false, some (68, false)⟩,
                ⟨some 75, .pick (.t 68) (.c (.bool true)) (.t 74), some (65, true)⟩,
                ⟨some 76, .pick (.t 65) (.t 75) (.c (.bool false)), none⟩,
                ⟨some 77, .mv (.t 76), none⟩,
                ⟨some 78, .mv (.t 14), some (77, true)⟩,
                ⟨some 79, .bin .neq (.t 78) (.c (.int .i64 0)), some (77, true)⟩,
                ⟨some 80, .mv (.t 79), some (77, true)⟩,
                ⟨some 81, .ld (.t 12) (some 12) false (some 12), some (80, false)⟩,
                ⟨some 82, .call n_codec_PutRecord [((.c (.sl false 1 [])), false), ((.t 81), false)] false, some (80, false)⟩,
                ⟨some 83, .al 13, some (80, false)⟩,
                ⟨some 84, .app 1 1 (.t 82) (.t 83) (some 13), some (80, false)⟩,
                ⟨none, .cm 84, none⟩,
                ⟨some 85, .mv (.t 0), some (80, false)⟩,
                ⟨none, .cm 84, none⟩,
                ⟨some 86, .call n_billingref07_Same [((.t 84), false), ((.t 85), false)] false, some (80, false)⟩,
                ⟨some 87, .pick (.t 80) (.c (.bool true)) (.t 86), some (77, true)⟩,
                ⟨some 88, .pick (.t 77) (.t 87) (.c (.bool false)), none⟩,
                ⟨some 89, .mv (.t 88), none⟩,
                ⟨some 90, .call n_billinglaw07_alive [] false, some (89, true)⟩,
                ⟨some 91, .pick (.t 89) (.t 90) (.c (.bool false)), none⟩,
                ⟨some 2, .mv (.t 91), none⟩])
              .ret))))))), [.tmp 2]⟩

/- billing/billingref07.Same -/
def a_billingref07_Same : AF := ⟨10, (.seq (.reg [
    ⟨none, .cm 0, none⟩,
    ⟨none, .cm 1, none⟩,
    ⟨some 4, .mv (.c (.bool false)), none⟩])
  (.seq (.reg [
      ⟨some 5, .cp (.t 0), none⟩,
      ⟨some 6, .cvs (.t 5) (some 0), none⟩,
      ⟨some 7, .cp (.t 1), none⟩,
      ⟨some 8, .cvs (.t 7) (some 1), none⟩,
      ⟨some 9, .bin .eql (.t 6) (.t 8), none⟩,
      ⟨some 4, .mv (.t 9), none⟩])
    .ret)), [.tmp 4]⟩

/- billing/codec.PutNumber -/
def a_codec_PutNumber : AF := ⟨9, (.seq (.reg [
    ⟨some 4, .mv (.c (.sl true 1 [])), none⟩])
  (.pre [false, false, false, false, true] (.seq (.reg [
      ⟨some 5, .mv (.t 0), none⟩,
      ⟨some 6, .call n_codec_grown [((.t 5), false), ((.c (.int .i64 10)), false)] false, none⟩,
      ⟨some 7, .mv (.t 1), none⟩,
      ⟨some 8, .call n_codec_add [((.t 6), true), ((.t 7), false)] false, none⟩,
      ⟨some 4, .mv (.t 8), none⟩])
    .ret))), [.tmp 4]⟩

/- billing/billingref07.PutNumber -/
def a_billingref07_PutNumber : AF := ⟨9, (.seq (.reg [
    ⟨some 4, .mv (.c (.sl true 1 [])), none⟩])
  (.pre [false, false, false, false, true] (.seq (.reg [
      ⟨some 5, .mv (.t 0), none⟩,
      ⟨some 6, .mv (.t 1), none⟩,
      ⟨some 7, .call n_billingref07_Bytes [((.t 6), false)] false, none⟩,
      ⟨none, .cm 7, none⟩,
      ⟨none, .cm 7, none⟩,
      ⟨some 8, .call n_billingref07_join [((.t 5), false), ((.t 7), false)] false, none⟩,
      ⟨some 4, .mv (.t 8), none⟩])
    .ret))), [.tmp 4]⟩

/- billing/billinglaw07.alive -/
def a_billinglaw07_alive : AF := ⟨39, (.seq (.reg [
    ⟨some 0, .mv (.c (.bool false)), none⟩])
  (.seq (.reg [
      ⟨some 5, .bsl 1 3 (.int .u8 0) [(0, (.c (.int .u8 128))), (1, (.c (.int .u8 1))), (2, (.c (.int .u8 9)))], none⟩,
      ⟨none, .cm 5, none⟩,
      ⟨some 6, .call n_codec_Number [((.t 5), false)] false, none⟩,
      ⟨some 4, .mv (.t 6), none⟩,
      ⟨some 7, .ext 4 0, none⟩,
      ⟨some 8, .ext 4 1, none⟩,
      ⟨none, .cm 8, none⟩,
      ⟨some 9, .ext 4 2, none⟩,
      ⟨some 1, .mv (.t 7), none⟩,
      ⟨some 2, .mv (.t 8), none⟩,
      ⟨none, .cm 2, none⟩,
      ⟨some 3, .mv (.t 9), none⟩])
    (.seq (.reg [
        ⟨some 10, .bsl 1 2 (.int .i64 0) [(0, (.c (.int .i64 1))), (1, (.c (.int .i64 (-1))))], none⟩,
        ⟨none, .cm 10, none⟩,
        ⟨some 11, .call n_codec_PutNumbers [((.c (.sl false 1 [])), false), ((.t 10), false)] false, none⟩,
        ⟨none, .cm 11, none⟩,
        ⟨some 12, .bsl 1 3 (.int .u8 0) [(0, (.c (.int .u8 4))), (1, (.c (.int .u8 2))), (2, (.c (.int .u8 1)))], none⟩,
        ⟨none, .cm 11, none⟩,
        ⟨none, .cm 12, none⟩,
        ⟨some 13, .call n_billingref07_Same [((.t 11), false), ((.t 12), false)] false, none⟩,
        ⟨some 14, .mv (.t 13), none⟩,
        ⟨some 15, .bsl 1 1 (.int .u8 0) [(0, (.c (.int .u8 7)))], some (14, true)⟩,
        ⟨none, .cm 15, none⟩,
        ⟨some 16, .call n_codec_PutText [((.t 15), false), ((.c (.str [97, 98])), false)] false, some (14, true)⟩,
        ⟨none, .cm 16, none⟩,
        ⟨some 17, .bsl 1 4 (.int .u8 0) [(0, (.c (.int .u8 7))), (1, (.c (.int .u8 4))), (2, (.c (.int .u8 97))), (3, (.c (.int .u8 98)))], some (14, true)⟩,
        ⟨none, .cm 16, none⟩,
        ⟨none, .cm 17, none⟩,
        ⟨some 18, .call n_billingref07_Same [((.t 16), false), ((.t 17), false)] false, some (14, true)⟩,
        ⟨some 19, .pick (.t 14) (.t 18) (.c (.bool false)), none⟩,
        ⟨some 20, .mv (.t 19), none⟩,
        ⟨some 21, .mv (.t 1), some (20, true)⟩,
        ⟨some 22, .bin .eql (.t 21) (.c (.int .i64 64)), some (20, true)⟩,
        ⟨some 23, .pick (.t 20) (.t 22) (.c (.bool false)), none⟩,
        ⟨some 24, .mv (.t 23), none⟩,
        ⟨some 25, .mv (.t 3), some (24, true)⟩,
        ⟨some 26, .bin .eql (.t 25) (.c (.int .i64 0)), some (24, true)⟩,
        ⟨some 27, .pick (.t 24) (.t 26) (.c (.bool false)), none⟩,
        ⟨some 28, .mv (.t 27), none⟩,
        ⟨none, .cm 2, none⟩,
        ⟨some 29, .cp (.t 2), some (28, true)⟩,
        ⟨some 30, .bsl 1 1 (.int .u8 0) [(0, (.c (.int .u8 9)))], some (28, true)⟩,
        ⟨none, .cm 29, none⟩,
        ⟨none, .cm 30, none⟩,
        ⟨some 31, .call n_billingref07_Same [((.t 29), false), ((.t 30), false)] false, some (28, true)⟩,
        ⟨some 32, .pick (.t 28) (.t 31) (.c (.bool false)), none⟩,
        ⟨some 33, .mv (.t 32), none⟩,
        ⟨some 34, .build [(.int .i64 0), (.int .i64 0), (.int .i64 0), (.str []), (.str []), (.int .i64 0), (.int .i64 0), (.int .i64 0), (.int .i64 0), (.bool false), (.int .i64 0), (.bool false)] [], some (33, true)⟩,
        ⟨some 35, .call n_codec_PutRecord [((.c (.sl false 1 [])), false), ((.t 34), false)] false, some (33, true)⟩,
        ⟨none, .cm 35, none⟩,
        ⟨some 36, .len false (.t 35) none, some (33, true)⟩,
        ⟨some 37, .bin .eql (.t 36) (.c (.int .i64 12)), some (33, true)⟩,
        ⟨some 38, .pick (.t 33) (.t 37) (.c (.bool false)), none⟩,
        ⟨some 0, .mv (.t 38), none⟩])
      .ret))), [.tmp 0]⟩

/- billing/codec.PutText -/
def a_codec_PutText : AF := ⟨15, (.seq (.reg [
    ⟨some 4, .mv (.c (.sl true 1 [])), none⟩])
  (.pre [false, false, false, false, true] (.seq (.reg [
      ⟨some 5, .mv (.t 0), none⟩,
      ⟨some 6, .mv (.t 1), none⟩,
      ⟨some 7, .len true (.t 6) none, none⟩,
      ⟨some 8, .bin .add (.c (.int .i64 10)) (.t 7), none⟩,
      ⟨some 9, .call n_codec_grown [((.t 5), false), ((.t 8), false)] false, none⟩,
      ⟨some 10, .mv (.t 1), none⟩,
      ⟨some 11, .len true (.t 10) none, none⟩,
      ⟨some 12, .call n_codec_add [((.t 9), true), ((.t 11), false)] false, none⟩,
      ⟨some 13, .mv (.t 1), none⟩,
      ⟨some 14, .app 1 1 (.t 12) (.t 13) none, none⟩,
      ⟨some 4, .mv (.t 14), none⟩])
    .ret))), [.tmp 4]⟩

/- billing/codec.PutNumbers -/
def codec_PutNumbers_l1b : AC := (.seq (.reg [
    ⟨some 20, .bin .lss (.t 19) (.t 18), none⟩])
  (.seq (.cond (.t 20) .skip
      (.exit 0))
    (.seq (.blk 1 (.seq (.reg [
            ⟨some 21, .ia (.t 17) (.t 19) 1 none (some 1), none⟩,
            ⟨some 22, .ld (.t 21) none false none, none⟩,
            ⟨some 7, .mv (.t 22), none⟩])
          (.reg [
            ⟨some 23, .mv (.t 5), none⟩,
            ⟨some 24, .mv (.t 7), none⟩,
            ⟨some 25, .call n_codec_add [((.t 23), true), ((.t 24), false)] false, none⟩,
            ⟨some 5, .mv (.t 25), none⟩])))
      (.reg [
        ⟨some 26, .bin .add (.t 19) (.c (.int .i64 1)), none⟩,
        ⟨some 19, .mv (.t 26), none⟩]))))
def codec_PutNumbers_l1 : AC := .pre [false, false, false, false, false, false, false, true, false, false, false, false, false, false, false, false, false, false, false, false, true, true, true, true, true, true, true] codec_PutNumbers_l1b
@[go_sem] theorem codec_PutNumbers_l1_go {M : Mach} {k : List It} {s : St} {Q : Ex → St → Prop} : Run M (.c (.loop codec_PutNumbers_l1) :: k) .norm s Q ↔ Run M (.c codec_PutNumbers_l1b :: .lp codec_PutNumbers_l1 :: k) .norm { s with t := killM [false, false, false, false, false, false, false, true, false, false, false, false, false, false, false, false, false, false, false, false, true, true, true, true, true, true, true] [false, false, false, false, false, false, false, true, false, false, false, false, false, false, false, false, false, false, false, false, true, true, true, true, true, true, true] s.t } Q := run_loop_pre
@[go_sem] theorem codec_PutNumbers_l1_lp {M : Mach} {k : List It} {s : St} {Q : Ex → St → Prop} : Run M (.lp codec_PutNumbers_l1 :: k) .norm s Q ↔ Run M (.c codec_PutNumbers_l1b :: .lp codec_PutNumbers_l1 :: k) .norm { s with t := killM [false, false, false, false, false, false, false, true, false, false, false, false, false, false, false, false, false, false, false, false, true, true, true, true, true, true, true] [false, false, false, false, false, false, false, true, false, false, false, false, false, false, false, false, false, false, false, false, true, true, true, true, true, true, true] s.t } Q := run_loop_pre
def a_codec_PutNumbers : AF := ⟨28, (.seq (.reg [
    ⟨some 4, .mv (.c (.sl true 1 [])), none⟩])
  (.pre [false, false, false, false, true] (.seq (.reg [
      ⟨some 8, .mv (.t 0), none⟩,
      ⟨some 9, .cp (.t 1), none⟩,
      ⟨some 10, .len false (.t 9) (some 1), none⟩,
      ⟨some 11, .bin .mul (.c (.int .i64 2)) (.t 10), none⟩,
      ⟨some 12, .bin .add (.c (.int .i64 10)) (.t 11), none⟩,
      ⟨some 13, .call n_codec_grown [((.t 8), false), ((.t 12), false)] false, none⟩,
      ⟨some 14, .cp (.t 1), none⟩,
      ⟨some 15, .len false (.t 14) (some 1), none⟩,
      ⟨some 16, .call n_codec_add [((.t 13), true), ((.t 15), false)] false, none⟩,
      ⟨some 5, .mv (.t 16), none⟩])
    (.seq (.seq (.reg [
          ⟨some 17, .cp (.t 1), none⟩,
          ⟨some 18, .len false (.t 17) (some 1), none⟩,
          ⟨some 19, .mv (.c (.int .i64 0)), none⟩])
        (.blk 0 (.pre [true, false, false, false, false, false, false, false, true, true, true, true, true, true, true, true, true] (.loop codec_PutNumbers_l1))))
      (.pre [true, true, false, false, false, false, false, true, true, true, true, true, true, true, true, true, true, true, true, true, true, true, true, true, true, true, true] (.seq (.reg [
          ⟨some 27, .mv (.t 5), none⟩,
          ⟨some 4, .mv (.t 27), none⟩])
        (.pre [false, false, false, false, false, true] .ret))))))), [.tmp 4]⟩

/- billing/codec.PutRecord -/
def a_codec_PutRecord : AF := ⟨67, (.seq (.reg [
    ⟨some 3, .boxr (.t 1), none⟩,
    ⟨some 4, .mv (.c (.sl true 1 [])), none⟩])
  (.pre [false, false, false, false, true] (.seq (.reg [
      ⟨some 6, .mv (.t 0), none⟩,
      ⟨some 7, .fa (.t 3) 3 none, none⟩,
      ⟨some 8, .ld (.t 7) none false none, none⟩,
      ⟨some 9, .len true (.t 8) none, none⟩,
      ⟨some 10, .bin .add (.c (.int .i64 60)) (.t 9), none⟩,
      ⟨some 11, .fa (.t 3) 4 none, none⟩,
      ⟨some 12, .ld (.t 11) none false none, none⟩,
      ⟨some 13, .len true (.t 12) none, none⟩,
      ⟨some 14, .bin .add (.t 10) (.t 13), none⟩,
      ⟨some 15, .call n_codec_grown [((.t 6), false), ((.t 14), false)] false, none⟩,
      ⟨some 5, .mv (.t 15), none⟩])
    (.seq (.dreg [
        ⟨some 16, .mv (.t 5), none⟩,
        ⟨some 17, .fa (.t 3) 0 none, none⟩,
        ⟨some 18, .ld (.t 17) none false none, none⟩,
        ⟨some 19, .call n_codec_add [((.t 16), true), ((.t 18), false)] false, none⟩,
        ⟨some 20, .fa (.t 3) 1 none, none⟩,
        ⟨some 21, .ld (.t 20) none false none, none⟩,
        ⟨some 22, .call n_codec_add [((.t 19), true), ((.t 21), false)] false, none⟩,
        ⟨some 23, .fa (.t 3) 2 none, none⟩,
        ⟨some 24, .ld (.t 23) none false none, none⟩,
        ⟨some 25, .call n_codec_add [((.t 22), true), ((.t 24), false)] false, none⟩,
        ⟨some 5, .mv (.t 25), none⟩])
      (.seq (.dreg [
          ⟨some 26, .mv (.t 5), none⟩,
          ⟨some 27, .fa (.t 3) 3 none, none⟩,
          ⟨some 28, .ld (.t 27) none false none, none⟩,
          ⟨some 29, .len true (.t 28) none, none⟩,
          ⟨some 30, .call n_codec_add [((.t 26), true), ((.t 29), false)] false, none⟩,
          ⟨some 31, .fa (.t 3) 3 none, none⟩,
          ⟨some 32, .ld (.t 31) none false none, none⟩,
          ⟨some 33, .app 1 1 (.t 30) (.t 32) none, none⟩,
          ⟨some 5, .mv (.t 33), none⟩])
        (.seq (.dreg [
            ⟨some 34, .mv (.t 5), none⟩,
            ⟨some 35, .fa (.t 3) 4 none, none⟩,
            ⟨some 36, .ld (.t 35) none false none, none⟩,
            ⟨some 37, .len true (.t 36) none, none⟩,
            ⟨some 38, .call n_codec_add [((.t 34), true), ((.t 37), false)] false, none⟩,
            ⟨some 39, .fa (.t 3) 4 none, none⟩,
            ⟨some 40, .ld (.t 39) none false none, none⟩,
            ⟨some 41, .app 1 1 (.t 38) (.t 40) none, none⟩,
            ⟨some 5, .mv (.t 41), none⟩])
          (.seq (.dreg [
              ⟨some 42, .mv (.t 5), none⟩,
              ⟨some 43, .fa (.t 3) 5 none, none⟩,
              ⟨some 44, .ld (.t 43) none false none, none⟩,
              ⟨some 45, .call n_codec_add [((.t 42), true), ((.t 44), false)] false, none⟩,
              ⟨some 46, .fa (.t 3) 6 none, none⟩,
              ⟨some 47, .ld (.t 46) none false none, none⟩,
              ⟨some 48, .call n_codec_add [((.t 45), true), ((.t 47), false)] false, none⟩,
              ⟨some 49, .fa (.t 3) 7 none, none⟩,
              ⟨some 50, .ld (.t 49) none false none, none⟩,
              ⟨some 51, .call n_codec_add [((.t 48), true), ((.t 50), false)] false, none⟩,
              ⟨some 52, .fa (.t 3) 8 none, none⟩,
              ⟨some 53, .ld (.t 52) none false none, none⟩,
              ⟨some 54, .call n_codec_add [((.t 51), true), ((.t 53), false)] false, none⟩,
              ⟨some 5, .mv (.t 54), none⟩])
            (.seq (.dreg [
                ⟨some 55, .mv (.t 5), none⟩,
                ⟨some 56, .fa (.t 3) 9 none, none⟩,
                ⟨some 57, .ld (.t 56) none false none, none⟩,
                ⟨some 58, .call n_codec_truth [((.t 57), false)] false, none⟩,
                ⟨some 59, .call n_codec_add [((.t 55), true), ((.t 58), false)] false, none⟩,
                ⟨some 60, .fa (.t 3) 10 none, none⟩,
                ⟨some 61, .ld (.t 60) none false none, none⟩,
                ⟨some 62, .call n_codec_add [((.t 59), true), ((.t 61), false)] false, none⟩,
                ⟨some 63, .fa (.t 3) 11 none, none⟩,
                ⟨some 64, .ld (.t 63) none false none, none⟩,
                ⟨some 65, .call n_codec_truth [((.t 64), false)] false, none⟩,
                ⟨some 66, .call n_codec_add [((.t 62), true), ((.t 65), false)] false, none⟩,
                ⟨some 4, .mv (.t 66), none⟩])
              (.pre [false, false, false, false, false, true] .ret))))))))), [.tmp 4]⟩

/- billing/codec.Number -/
def a_codec_Number : AF := ⟨21, (.seq (.reg [
    ⟨some 2, .mv (.c (.int .i64 0)), none⟩,
    ⟨some 3, .mv (.c (.sl true 1 [])), none⟩,
    ⟨some 4, .mv (.c (.int .i64 0)), none⟩])
  (.pre [false, false, false, true] (.seq (.reg [
      ⟨some 9, .mv (.t 0), none⟩,
      ⟨some 10, .call n_codec_scan [((.t 9), false)] false, none⟩,
      ⟨some 8, .mv (.t 10), none⟩,
      ⟨some 11, .ext 8 0, none⟩,
      ⟨some 12, .ext 8 1, none⟩,
      ⟨some 13, .ext 8 2, none⟩,
      ⟨some 5, .mv (.t 11), none⟩,
      ⟨some 6, .mv (.t 12), none⟩,
      ⟨some 7, .mv (.t 13), none⟩])
    (.seq (.seq (.reg [
          ⟨some 14, .mv (.t 7), none⟩,
          ⟨some 15, .bin .neq (.t 14) (.c (.int .i64 0)), none⟩])
        (.cond (.t 15) (.seq (.reg [
              ⟨some 16, .mv (.t 7), none⟩,
              ⟨some 2, .mv (.c (.int .i64 0)), none⟩,
              ⟨some 3, .mv (.c (.sl true 1 [])), none⟩,
              ⟨some 4, .mv (.t 16), none⟩])
            .ret)
          .skip))
      (.pre [false, false, false, true] (.seq (.reg [
          ⟨some 17, .mv (.t 5), none⟩,
          ⟨some 18, .mv (.t 0), none⟩,
          ⟨some 19, .mv (.t 6), none⟩,
          ⟨some 20, .call n_codec_rest [((.t 18), false), ((.t 19), false)] false, none⟩,
          ⟨some 2, .mv (.t 17), none⟩,
          ⟨some 3, .mv (.t 20), none⟩,
          ⟨some 4, .mv (.c (.int .i64 0)), none⟩])
        .ret)))))), [.tmp 2, .tmp 3, .tmp 4]⟩

/- billing/codec.Text -/
def a_codec_Text : AF := ⟨35, (.seq (.reg [
    ⟨some 2, .mv (.c (.str [])), none⟩,
    ⟨some 3, .mv (.c (.sl true 1 [])), none⟩,
    ⟨some 4, .mv (.c (.int .i64 0)), none⟩])
  (.pre [false, false, false, true] (.seq (.reg [
      ⟨some 9, .mv (.t 0), none⟩,
      ⟨some 10, .call n_codec_length [((.t 9), false)] false, none⟩,
      ⟨some 8, .mv (.t 10), none⟩,
      ⟨some 11, .ext 8 0, none⟩,
      ⟨some 12, .ext 8 1, none⟩,
      ⟨some 13, .ext 8 2, none⟩,
      ⟨some 5, .mv (.t 11), none⟩,
      ⟨some 6, .mv (.t 12), none⟩,
      ⟨some 7, .mv (.t 13), none⟩])
    (.seq (.seq (.reg [
          ⟨some 14, .mv (.t 7), none⟩,
          ⟨some 15, .bin .neq (.t 14) (.c (.int .i64 0)), none⟩])
        (.cond (.t 15) (.seq (.reg [
              ⟨some 16, .mv (.t 7), none⟩,
              ⟨some 2, .mv (.c (.str [])), none⟩,
              ⟨some 3, .mv (.c (.sl true 1 [])), none⟩,
              ⟨some 4, .mv (.t 16), none⟩])
            .ret)
          .skip))
      (.pre [false, false, false, true] (.seq (.seq (.reg [
            ⟨some 17, .cp (.t 0), none⟩,
            ⟨some 18, .len false (.t 17) (some 0), none⟩,
            ⟨some 19, .mv (.t 6), none⟩,
            ⟨some 20, .bin .sub (.t 18) (.t 19), none⟩,
            ⟨some 21, .mv (.t 5), none⟩,
            ⟨some 22, .bin .lss (.t 20) (.t 21), none⟩])
          (.cond (.t 22) (.seq (.reg [
                ⟨some 2, .mv (.c (.str [])), none⟩,
                ⟨some 3, .mv (.c (.sl true 1 [])), none⟩,
                ⟨some 4, .mv (.c (.int .i64 2)), none⟩])
              .ret)
            .skip))
        (.pre [false, false, false, true] (.seq (.dreg [
            ⟨some 23, .cp (.t 0), none⟩,
            ⟨some 24, .cp (.t 6), none⟩,
            ⟨some 25, .cp (.t 6), none⟩,
            ⟨some 26, .cp (.t 5), none⟩,
            ⟨some 27, .bin .add (.t 25) (.t 26), none⟩,
            ⟨some 28, .slc (some 1) (.t 23) (some (.t 24)) (some (.t 27)) none, none⟩,
            ⟨some 29, .cvs (.t 28) none, none⟩,
            ⟨some 30, .cp (.t 0), none⟩,
            ⟨some 31, .cp (.t 6), none⟩,
            ⟨some 32, .cp (.t 5), none⟩,
            ⟨some 33, .bin .add (.t 31) (.t 32), none⟩,
            ⟨some 34, .call n_codec_rest [((.t 30), false), ((.t 33), false)] false, none⟩,
            ⟨some 2, .cp (.t 29), none⟩,
            ⟨some 3, .mv (.t 34), none⟩,
            ⟨some 4, .mv (.c (.int .i64 0)), none⟩])
          .ret)))))))), [.tmp 2, .tmp 3, .tmp 4]⟩

/- billing/billingref07.Text -/
def a_billingref07_Text : AF := ⟨28, (.seq (.reg [
    ⟨some 2, .mv (.c (.str [])), none⟩,
    ⟨some 3, .mv (.c (.sl true 1 [])), none⟩,
    ⟨some 4, .mv (.c (.int .i64 0)), none⟩])
  (.pre [false, false, false, true] (.seq (.reg [
      ⟨some 9, .mv (.t 0), none⟩,
      ⟨some 10, .call n_billingref07_length [((.t 9), false)] false, none⟩,
      ⟨some 8, .mv (.t 10), none⟩,
      ⟨some 11, .ext 8 0, none⟩,
      ⟨some 12, .ext 8 1, none⟩,
      ⟨none, .cm 12, none⟩,
      ⟨some 13, .ext 8 2, none⟩,
      ⟨some 5, .mv (.t 11), none⟩,
      ⟨some 6, .mv (.t 12), none⟩,
      ⟨none, .cm 6, none⟩,
      ⟨some 7, .mv (.t 13), none⟩])
    (.seq (.seq (.reg [
          ⟨some 14, .mv (.t 7), none⟩,
          ⟨some 15, .bin .neq (.t 14) (.c (.int .i64 0)), none⟩])
        (.cond (.t 15) (.seq (.reg [
              ⟨some 16, .mv (.t 7), none⟩,
              ⟨some 2, .mv (.c (.str [])), none⟩,
              ⟨some 3, .mv (.c (.sl true 1 [])), none⟩,
              ⟨some 4, .mv (.t 16), none⟩])
            .ret)
          .skip))
      (.pre [false, false, false, true] (.seq (.seq (.reg [
            ⟨some 17, .mv (.t 5), none⟩,
            ⟨some 18, .al 6, none⟩,
            ⟨some 19, .len false (.t 18) (some 6), none⟩,
            ⟨some 20, .bin .gtr (.t 17) (.t 19), none⟩])
          (.cond (.t 20) (.seq (.reg [
                ⟨some 2, .mv (.c (.str [])), none⟩,
                ⟨some 3, .mv (.c (.sl true 1 [])), none⟩,
                ⟨some 4, .mv (.c (.int .i64 2)), none⟩])
              .ret)
            .skip))
        (.pre [false, false, false, true] (.seq (.dreg [
            ⟨some 21, .cp (.t 6), none⟩,
            ⟨some 22, .cp (.t 5), none⟩,
            ⟨some 23, .slc (some 1) (.t 21) none (some (.t 22)) none, none⟩,
            ⟨some 24, .cvs (.t 23) none, none⟩,
            ⟨some 25, .cp (.t 6), none⟩,
            ⟨some 26, .cp (.t 5), none⟩,
            ⟨some 27, .slc (some 1) (.t 25) (some (.t 26)) none none, none⟩,
            ⟨some 2, .cp (.t 24), none⟩,
            ⟨some 3, .cp (.t 27), none⟩,
            ⟨some 4, .mv (.c (.int .i64 0)), none⟩])
          .ret)))))))), [.tmp 2, .tmp 3, .tmp 4]⟩

/- billing/billingref07.PutText -/
def a_billingref07_PutText : AF := ⟨12, (.seq (.reg [
    ⟨some 4, .mv (.c (.sl true 1 [])), none⟩])
  (.pre [false, false, false, false, true] (.seq (.reg [
      ⟨some 5, .mv (.t 0), none⟩,
      ⟨some 6, .mv (.t 1), none⟩,
      ⟨some 7, .len true (.t 6) none, none⟩,
      ⟨some 8, .call n_billingref07_PutNumber [((.t 5), false), ((.t 7), false)] false, none⟩,
      ⟨none, .cm 8, none⟩,
      ⟨some 9, .mv (.t 1), none⟩,
      ⟨some 10, .cvb (.t 9), none⟩,
      ⟨none, .cm 10, none⟩,
      ⟨none, .cm 8, none⟩,
      ⟨none, .cm 10, none⟩,
      ⟨some 11, .call n_billingref07_join [((.t 8), false), ((.t 10), false)] false, none⟩,
      ⟨some 4, .mv (.t 11), none⟩])
    .ret))), [.tmp 4]⟩

/- billing/billingref07.Number -/
def billingref07_Number_l1b : AC := (.seq (.seq (.reg [
      ⟨some 10, .mv (.t 7), none⟩,
      ⟨some 11, .bin .lss (.t 10) (.c (.int .i64 10)), none⟩])
    (.pre [false, false, false, true] (.cond (.t 11) .skip
      (.exit 0))))
  (.pre [false, false, false, true] (.seq (.blk 1 (.seq (.seq (.reg [
            ⟨some 14, .mv (.t 7), none⟩,
            ⟨some 15, .cp (.t 0), none⟩,
            ⟨some 16, .len false (.t 15) (some 0), none⟩,
            ⟨some 17, .bin .eql (.t 14) (.t 16), none⟩])
          (.cond (.t 17) (.seq (.reg [
                ⟨some 2, .mv (.c (.int .i64 0)), none⟩,
                ⟨some 3, .mv (.c (.sl true 1 [])), none⟩,
                ⟨some 4, .mv (.c (.int .i64 2)), none⟩])
              .ret)
            .skip))
        (.pre [false, false, false, true] (.seq (.reg [
            ⟨some 18, .cp (.t 0), none⟩,
            ⟨some 19, .mv (.t 7), none⟩,
            ⟨some 20, .ia (.t 18) (.t 19) 1 none (some 0), none⟩,
            ⟨some 21, .ld (.t 20) none false none, none⟩,
            ⟨some 22, .cvi .u64 (.t 21), none⟩,
            ⟨some 8, .mv (.t 22), none⟩])
          (.seq (.seq (.reg [
                ⟨some 23, .mv (.t 7), none⟩,
                ⟨some 24, .bin .eql (.t 23) (.c (.int .i64 9)), none⟩,
                ⟨some 25, .mv (.t 24), none⟩,
                ⟨some 26, .mv (.t 8), some (25, true)⟩,
                ⟨some 27, .bin .neq (.t 26) (.c (.int .u64 1)), some (25, true)⟩,
                ⟨some 28, .pick (.t 25) (.t 27) (.c (.bool false)), none⟩,
                ⟨some 29, .mv (.t 28), none⟩,
                ⟨some 30, .mv (.t 7), some (29, false)⟩,
                ⟨some 31, .bin .gtr (.t 30) (.c (.int .i64 0)), some (29, false)⟩,
                ⟨some 32, .mv (.t 31), some (29, false)⟩,
                ⟨some 33, .mv (.t 8), some (32, true)⟩,
                ⟨some 34, .bin .eql (.t 33) (.c (.int .u64 0)), some (32, true)⟩,
                ⟨some 35, .pick (.t 32) (.t 34) (.c (.bool false)), some (29, false)⟩,
                ⟨some 36, .pick (.t 29) (.c (.bool true)) (.t 35), none⟩])
              (.cond (.t 36) (.seq (.reg [
                    ⟨some 2, .mv (.c (.int .i64 0)), none⟩,
                    ⟨some 3, .mv (.c (.sl true 1 [])), none⟩,
                    ⟨some 4, .mv (.c (.int .i64 1)), none⟩])
                  .ret)
                .skip))
            (.pre [false, false, false, true] (.seq (.reg [
                ⟨some 37, .mv (.t 5), none⟩,
                ⟨some 38, .mv (.t 8), none⟩,
                ⟨some 39, .bin .rem (.t 38) (.c (.int .u64 128)), none⟩,
                ⟨some 40, .mv (.t 6), none⟩,
                ⟨some 41, .bin .mul (.t 39) (.t 40), none⟩,
                ⟨some 42, .bin .add (.t 37) (.t 41), none⟩,
                ⟨some 5, .mv (.t 42), none⟩])
              (.seq (.reg [
                  ⟨some 43, .mv (.t 6), none⟩,
                  ⟨some 44, .bin .mul (.t 43) (.c (.int .u64 128)), none⟩,
                  ⟨some 6, .mv (.t 44), none⟩])
                (.seq (.seq (.reg [
                      ⟨some 45, .mv (.t 8), none⟩,
                      ⟨some 46, .bin .geq (.t 45) (.c (.int .u64 128)), none⟩])
                    (.cond (.t 46) (.exit 1)
                      .skip))
                  (.seq (.reg [
                      ⟨some 47, .mv (.t 0), none⟩,
                      ⟨some 48, .mv (.t 7), none⟩,
                      ⟨some 49, .bin .add (.t 48) (.c (.int .i64 1)), none⟩,
                      ⟨some 50, .slc (some 1) (.t 47) (some (.t 49)) none none, none⟩,
                      ⟨some 51, .call n_billingref07_join [((.c (.sl false 1 [])), false), ((.t 50), false)] false, none⟩,
                      ⟨some 9, .mv (.t 51), none⟩])
                    (.seq (.seq (.reg [
                          ⟨some 52, .mv (.t 5), none⟩,
                          ⟨some 53, .bin .rem (.t 52) (.c (.int .u64 2)), none⟩,
                          ⟨some 54, .bin .eql (.t 53) (.c (.int .u64 1)), none⟩])
                        (.cond (.t 54) (.seq (.reg [
                              ⟨some 55, .mv (.t 5), none⟩,
                              ⟨some 56, .bin .quo (.t 55) (.c (.int .u64 2)), none⟩,
                              ⟨some 57, .cvi .i64 (.t 56), none⟩,
                              ⟨some 58, .un .neg (.t 57), none⟩,
                              ⟨some 59, .bin .sub (.t 58) (.c (.int .i64 1)), none⟩,
                              ⟨some 60, .mv (.t 9), none⟩,
                              ⟨some 2, .mv (.t 59), none⟩,
                              ⟨some 3, .mv (.t 60), none⟩,
                              ⟨some 4, .mv (.c (.int .i64 0)), none⟩])
                            .ret)
                          .skip))
                      (.pre [false, false, false, true] (.seq (.reg [
                          ⟨some 61, .mv (.t 5), none⟩,
                          ⟨some 62, .bin .quo (.t 61) (.c (.int .u64 2)), none⟩,
                          ⟨some 63, .cvi .i64 (.t 62), none⟩,
                          ⟨some 64, .mv (.t 9), none⟩,
                          ⟨some 2, .mv (.t 63), none⟩,
                          ⟨some 3, .mv (.t 64), none⟩,
                          ⟨some 4, .mv (.c (.int .i64 0)), none⟩])
                        .ret)))))))))))))
    (.pre [false, false, false, true] (.reg [
      ⟨some 12, .mv (.t 7), none⟩,
      ⟨some 13, .bin .add (.t 12) (.c (.int .i64 1)), none⟩,
      ⟨some 7, .mv (.t 13), none⟩])))))
def billingref07_Number_l1 : AC := .pre [false, false, true, true, true, false, false, false, true, true, true, true, true, true, true, true, true, true, true, true, true, true, true, true, true, true, true, true, true, true, true, true, true, true, true, true, true, true, true, true, true, true, true, true, true, true, true, true, true, true, true, true, true, true, true, true, true, true, true, true, true, true, true, true, true] billingref07_Number_l1b
@[go_sem] theorem billingref07_Number_l1_go {M : Mach} {k : List It} {s : St} {Q : Ex → St → Prop} : Run M (.c (.loop billingref07_Number_l1) :: k) .norm s Q ↔ Run M (.c billingref07_Number_l1b :: .lp billingref07_Number_l1 :: k) .norm { s with t := killM [false, false, true, true, true, false, false, false, true, true, true, true, true, true, true, true, true, true, true, true, true, true, true, true, true, true, true, true, true, true, true, true, true, true, true, true, true, true, true, true, true, true, true, true, true, true, true, true, true, true, true, true, true, true, true, true, true, true, true, true, true, true, true, true, true] [false, false, true, true, true, false, false, false, true, true, true, true, true, true, true, true, true, true, true, true, true, true, true, true, true, true, true, true, true, true, true, true, true, true, true, true, true, true, true, true, true, true, true, true, true, true, true, true, true, true, true, true, true, true, true, true, true, true, true, true, true, true, true, true, true] s.t } Q := run_loop_pre
@[go_sem] theorem billingref07_Number_l1_lp {M : Mach} {k : List It} {s : St} {Q : Ex → St → Prop} : Run M (.lp billingref07_Number_l1 :: k) .norm s Q ↔ Run M (.c billingref07_Number_l1b :: .lp billingref07_Number_l1 :: k) .norm { s with t := killM [false, false, true, true, true, false, false, false, true, true, true, true, true, true, true, true, true, true, true, true, true, true, true, true, true, true, true, true, true, true, true, true, true, true, true, true, true, true, true, true, true, true, true, true, true, true, true, true, true, true, true, true, true, true, true, true, true, true, true, true, true, true, true, true, true] [false, false, true, true, true, false, false, false, true, true, true, true, true, true, true, true, true, true, true, true, true, true, true, true, true, true, true, true, true, true, true, true, true, true, true, true, true, true, true, true, true, true, true, true, true, true, true, true, true, true, true, true, true, true, true, true, true, true, true, true, true, true, true, true, true] s.t } Q := run_loop_pre
def a_billingref07_Number : AF := ⟨65, (.seq (.reg [
    ⟨some 2, .mv (.c (.int .i64 0)), none⟩,
    ⟨some 3, .mv (.c (.sl true 1 [])), none⟩,
    ⟨some 4, .mv (.c (.int .i64 0)), none⟩])
  (.pre [false, false, false, true] (.seq (.reg [
      ⟨some 5, .mv (.c (.int .u64 0)), none⟩,
      ⟨some 6, .mv (.c (.int .u64 1)), none⟩])
    (.seq (.seq (.reg [
          ⟨some 7, .mv (.c (.int .i64 0)), none⟩])
        (.blk 0 (.loop billingref07_Number_l1)))
      (.pre [true, false, true, true, true, true, true, true, true, true, true, true, true, true, true, true, true, true, true, true, true, true, true, true, true, true, true, true, true, true, true, true, true, true, true, true, true, true, true, true, true, true, true, true, true, true, true, true, true, true, true, true, true, true, true, true, true, true, true, true, true, true, true, true, true] (.seq (.reg [
          ⟨some 2, .mv (.c (.int .i64 0)), none⟩,
          ⟨some 3, .mv (.c (.sl true 1 [])), none⟩,
          ⟨some 4, .mv (.c (.int .i64 1)), none⟩])
        .ret)))))), [.tmp 2, .tmp 3, .tmp 4]⟩

/- billing/codec.Numbers -/
def codec_Numbers_l1b : AC := (.seq (.seq (.reg [
      ⟨some 22, .mv (.t 9), none⟩,
      ⟨some 23, .mv (.t 5), none⟩,
      ⟨some 24, .bin .lss (.t 22) (.t 23), none⟩])
    (.pre [false, false, true, true] (.cond (.t 24) .skip
      (.exit 0))))
  (.pre [false, false, true, true] (.seq (.blk 1 (.seq (.reg [
          ⟨some 28, .mv (.t 0), none⟩,
          ⟨some 29, .mv (.t 6), none⟩,
          ⟨some 30, .slc (some 1) (.t 28) (some (.t 29)) none none, none⟩,
          ⟨some 31, .call n_codec_scan [((.t 30), false)] false, none⟩,
          ⟨some 27, .mv (.t 31), none⟩,
          ⟨some 32, .ext 27 0, none⟩,
          ⟨some 33, .ext 27 1, none⟩,
          ⟨some 34, .ext 27 2, none⟩,
          ⟨some 10, .mv (.t 32), none⟩,
          ⟨some 11, .mv (.t 33), none⟩,
          ⟨some 12, .mv (.t 34), none⟩])
        (.seq (.seq (.reg [
              ⟨some 35, .mv (.t 12), none⟩,
              ⟨some 36, .bin .neq (.t 35) (.c (.int .i64 0)), none⟩])
            (.cond (.t 36) (.seq (.reg [
                  ⟨some 37, .mv (.t 12), none⟩,
                  ⟨some 2, .mv (.c (.sl true 1 [])), none⟩,
                  ⟨some 3, .mv (.c (.sl true 1 [])), none⟩,
                  ⟨some 4, .mv (.t 37), none⟩])
                (.pre [false, false, false, false, false, false, false, false, true] .ret))
              .skip))
          (.pre [false, false, true, true] (.seq (.reg [
              ⟨some 38, .mv (.t 8), none⟩,
              ⟨some 39, .mv (.t 10), none⟩,
              ⟨some 40, .bsl 1 1 (.int .i64 0) [(0, (.t 39))], none⟩,
              ⟨some 41, .app 1 8 (.t 38) (.t 40) none, none⟩,
              ⟨some 8, .mv (.t 41), none⟩])
            (.reg [
              ⟨some 42, .mv (.t 6), none⟩,
              ⟨some 43, .mv (.t 11), none⟩,
              ⟨some 44, .bin .add (.t 42) (.t 43), none⟩,
              ⟨some 6, .mv (.t 44), none⟩]))))))
    (.pre [false, false, true, true] (.reg [
      ⟨some 25, .mv (.t 9), none⟩,
      ⟨some 26, .bin .add (.t 25) (.c (.int .i64 1)), none⟩,
      ⟨some 9, .mv (.t 26), none⟩])))))
def codec_Numbers_l1 : AC := .pre [false, false, true, true, true, false, false, false, false, false, true, true, true, false, false, false, false, false, false, false, false, false, true, true, true, true, true, true, true, true, true, true, true, true, true, true, true, true, true, true, true, true, true, true, true] codec_Numbers_l1b
@[go_sem] theorem codec_Numbers_l1_go {M : Mach} {k : List It} {s : St} {Q : Ex → St → Prop} : Run M (.c (.loop codec_Numbers_l1) :: k) .norm s Q ↔ Run M (.c codec_Numbers_l1b :: .lp codec_Numbers_l1 :: k) .norm { s with t := killM [false, false, true, true, true, false, false, false, false, false, true, true, true, false, false, false, false, false, false, false, false, false, true, true, true, true, true, true, true, true, true, true, true, true, true, true, true, true, true, true, true, true, true, true, true] [false, false, true, true, true, false, false, false, false, false, true, true, true, false, false, false, false, false, false, false, false, false, true, true, true, true, true, true, true, true, true, true, true, true, true, true, true, true, true, true, true, true, true, true, true] s.t } Q := run_loop_pre
@[go_sem] theorem codec_Numbers_l1_lp {M : Mach} {k : List It} {s : St} {Q : Ex → St → Prop} : Run M (.lp codec_Numbers_l1 :: k) .norm s Q ↔ Run M (.c codec_Numbers_l1b :: .lp codec_Numbers_l1 :: k) .norm { s with t := killM [false, false, true, true, true, false, false, false, false, false, true, true, true, false, false, false, false, false, false, false, false, false, true, true, true, true, true, true, true, true, true, true, true, true, true, true, true, true, true, true, true, true, true, true, true] [false, false, true, true, true, false, false, false, false, false, true, true, true, false, false, false, false, false, false, false, false, false, true, true, true, true, true, true, true, true, true, true, true, true, true, true, true, true, true, true, true, true, true, true, true] s.t } Q := run_loop_pre
def a_codec_Numbers : AF := ⟨49, (.seq (.reg [
    ⟨some 2, .mv (.c (.sl true 1 [])), none⟩,
    ⟨some 3, .mv (.c (.sl true 1 [])), none⟩,
    ⟨some 4, .mv (.c (.int .i64 0)), none⟩])
  (.pre [false, false, true, true] (.seq (.reg [
      ⟨some 14, .mv (.t 0), none⟩,
      ⟨some 15, .call n_codec_length [((.t 14), false)] false, none⟩,
      ⟨some 13, .mv (.t 15), none⟩,
      ⟨some 16, .ext 13 0, none⟩,
      ⟨some 17, .ext 13 1, none⟩,
      ⟨some 18, .ext 13 2, none⟩,
      ⟨some 5, .mv (.t 16), none⟩,
      ⟨some 6, .mv (.t 17), none⟩,
      ⟨some 7, .mv (.t 18), none⟩])
    (.seq (.seq (.reg [
          ⟨some 19, .mv (.t 7), none⟩,
          ⟨some 20, .bin .neq (.t 19) (.c (.int .i64 0)), none⟩])
        (.cond (.t 20) (.seq (.reg [
              ⟨some 21, .mv (.t 7), none⟩,
              ⟨some 2, .mv (.c (.sl true 1 [])), none⟩,
              ⟨some 3, .mv (.c (.sl true 1 [])), none⟩,
              ⟨some 4, .mv (.t 21), none⟩])
            .ret)
          .skip))
      (.pre [false, false, true, true] (.seq (.reg [
          ⟨some 8, .mv (.c (.sl true 1 [])), none⟩])
        (.seq (.seq (.reg [
              ⟨some 9, .mv (.c (.int .i64 0)), none⟩])
            (.blk 0 (.pre [false, false, false, false, false, false, false, true, false, false, false, false, false, true, true, true, true, true, true, true, true, true] (.loop codec_Numbers_l1))))
          (.pre [false, false, true, true, true, true, false, true, false, true, true, true, true, true, true, true, true, true, true, true, true, true, true, true, true, true, true, true, true, true, true, true, true, true, true, true, true, true, true, true, true, true, true, true, true] (.seq (.reg [
              ⟨some 45, .mv (.t 8), none⟩,
              ⟨some 46, .mv (.t 0), none⟩,
              ⟨some 47, .mv (.t 6), none⟩,
              ⟨some 48, .call n_codec_rest [((.t 46), false), ((.t 47), false)] false, none⟩,
              ⟨some 2, .mv (.t 45), none⟩,
              ⟨some 3, .mv (.t 48), none⟩,
              ⟨some 4, .mv (.c (.int .i64 0)), none⟩])
            (.pre [false, false, false, false, false, false, false, false, true] .ret)))))))))), [.tmp 2, .tmp 3, .tmp 4]⟩

/- billing/billingref07.Numbers -/
def billingref07_Numbers_l1b : AC := (.seq (.seq (.reg [
      ⟨some 22, .mv (.t 9), none⟩,
      ⟨some 23, .mv (.t 5), none⟩,
      ⟨some 24, .bin .lss (.t 22) (.t 23), none⟩])
    (.pre [false, false, true, true] (.cond (.t 24) .skip
      (.exit 0))))
  (.pre [false, false, true, true] (.seq (.blk 1 (.seq (.reg [
          ⟨none, .cm 6, none⟩,
          ⟨some 28, .cp (.t 6), none⟩,
          ⟨none, .cm 28, none⟩,
          ⟨some 29, .call n_billingref07_Number [((.t 28), false)] false, none⟩,
          ⟨some 27, .mv (.t 29), none⟩,
          ⟨some 30, .ext 27 0, none⟩,
          ⟨some 31, .ext 27 1, none⟩,
          ⟨some 32, .ext 27 2, none⟩,
          ⟨some 10, .mv (.t 30), none⟩,
          ⟨some 11, .mv (.t 31), none⟩,
          ⟨some 12, .mv (.t 32), none⟩])
        (.pre [false, false, false, false, false, false, true] (.seq (.seq (.reg [
              ⟨some 33, .mv (.t 12), none⟩,
              ⟨some 34, .bin .neq (.t 33) (.c (.int .i64 0)), none⟩])
            (.cond (.t 34) (.seq (.reg [
                  ⟨some 35, .mv (.t 12), none⟩,
                  ⟨some 2, .mv (.c (.sl true 1 [])), none⟩,
                  ⟨some 3, .mv (.c (.sl true 1 [])), none⟩,
                  ⟨some 4, .mv (.t 35), none⟩])
                (.pre [false, false, false, false, false, false, false, false, true] .ret))
              .skip))
          (.pre [false, false, true, true] (.seq (.reg [
              ⟨some 36, .mv (.t 8), none⟩,
              ⟨some 37, .mv (.t 10), none⟩,
              ⟨some 38, .bsl 1 1 (.int .i64 0) [(0, (.t 37))], none⟩,
              ⟨some 39, .app 1 8 (.t 36) (.t 38) none, none⟩,
              ⟨some 8, .mv (.t 39), none⟩])
            (.reg [
              ⟨some 40, .mv (.t 11), none⟩,
              ⟨some 6, .mv (.t 40), none⟩])))))))
    (.pre [false, false, true, true] (.reg [
      ⟨some 25, .mv (.t 9), none⟩,
      ⟨some 26, .bin .add (.t 25) (.c (.int .i64 1)), none⟩,
      ⟨some 9, .mv (.t 26), none⟩])))))
def billingref07_Numbers_l1 : AC := .pre [false, false, true, true, true, false, false, false, false, false, true, true, true, false, false, false, false, false, false, false, false, false, true, true, true, true, true, true, true, true, true, true, true, true, true, true, true, true, true, true, true] billingref07_Numbers_l1b
@[go_sem] theorem billingref07_Numbers_l1_go {M : Mach} {k : List It} {s : St} {Q : Ex → St → Prop} : Run M (.c (.loop billingref07_Numbers_l1) :: k) .norm s Q ↔ Run M (.c billingref07_Numbers_l1b :: .lp billingref07_Numbers_l1 :: k) .norm { s with t := killM [false, false, true, true, true, false, false, false, false, false, true, true, true, false, false, false, false, false, false, false, false, false, true, true, true, true, true, true, true, true, true, true, true, true, true, true, true, true, true, true, true] [false, false, true, true, true, false, false, false, false, false, true, true, true, false, false, false, false, false, false, false, false, false, true, true, true, true, true, true, true, true, true, true, true, true, true, true, true, true, true, true, true] s.t } Q := run_loop_pre
@[go_sem] theorem billingref07_Numbers_l1_lp {M : Mach} {k : List It} {s : St} {Q : Ex → St → Prop} : Run M (.lp billingref07_Numbers_l1 :: k) .norm s Q ↔ Run M (.c billingref07_Numbers_l1b :: .lp billingref07_Numbers_l1 :: k) .norm { s with t := killM [false, false, true, true, true, false, false, false, false, false, true, true, true, false, false, false, false, false, false, false, false, false, true, true, true, true, true, true, true, true, true, true, true, true, true, true, true, true, true, true, true] [false, false, true, true, true, false, false, false, false, false, true, true, true, false, false, false, false, false, false, false, false, false, true, true, true, true, true, true, true, true, true, true, true, true, true, true, true, true, true, true, true] s.t } Q := run_loop_pre
def a_billingref07_Numbers : AF := ⟨43, (.seq (.reg [
    ⟨some 2, .mv (.c (.sl true 1 [])), none⟩,
    ⟨some 3, .mv (.c (.sl true 1 [])), none⟩,
    ⟨some 4, .mv (.c (.int .i64 0)), none⟩])
  (.pre [false, false, true, true] (.seq (.reg [
      ⟨some 14, .mv (.t 0), none⟩,
      ⟨some 15, .call n_billingref07_length [((.t 14), false)] false, none⟩,
      ⟨some 13, .mv (.t 15), none⟩,
      ⟨some 16, .ext 13 0, none⟩,
      ⟨some 17, .ext 13 1, none⟩,
      ⟨some 18, .ext 13 2, none⟩,
      ⟨some 5, .mv (.t 16), none⟩,
      ⟨some 6, .mv (.t 17), none⟩,
      ⟨some 7, .mv (.t 18), none⟩])
    (.seq (.seq (.reg [
          ⟨some 19, .mv (.t 7), none⟩,
          ⟨some 20, .bin .neq (.t 19) (.c (.int .i64 0)), none⟩])
        (.cond (.t 20) (.seq (.reg [
              ⟨some 21, .mv (.t 7), none⟩,
              ⟨some 2, .mv (.c (.sl true 1 [])), none⟩,
              ⟨some 3, .mv (.c (.sl true 1 [])), none⟩,
              ⟨some 4, .mv (.t 21), none⟩])
            (.pre [false, false, false, false, false, false, true] .ret))
          .skip))
      (.pre [false, false, true, true] (.seq (.reg [
          ⟨some 8, .mv (.c (.sl true 1 [])), none⟩])
        (.seq (.seq (.reg [
              ⟨some 9, .mv (.c (.int .i64 0)), none⟩])
            (.blk 0 (.pre [true, false, false, false, false, false, false, true, false, false, false, false, false, true, true, true, true, true, true, true, true, true] (.loop billingref07_Numbers_l1))))
          (.pre [true, false, true, true, true, true, false, true, false, true, true, true, true, true, true, true, true, true, true, true, true, true, true, true, true, true, true, true, true, true, true, true, true, true, true, true, true, true, true, true, true] (.seq (.reg [
              ⟨some 41, .mv (.t 8), none⟩,
              ⟨some 42, .mv (.t 6), none⟩,
              ⟨some 2, .mv (.t 41), none⟩,
              ⟨some 3, .mv (.t 42), none⟩,
              ⟨some 4, .mv (.c (.int .i64 0)), none⟩])
            (.pre [false, false, false, false, false, false, true, false, true] .ret)))))))))), [.tmp 2, .tmp 3, .tmp 4]⟩

/- billing/billingref07.SameInts -/
def billingref07_SameInts_l1b : AC := (.seq (.seq (.reg [
      ⟨some 11, .mv (.t 5), none⟩,
      ⟨some 12, .cp (.t 0), none⟩,
      ⟨some 13, .len false (.t 12) (some 0), none⟩,
      ⟨some 14, .bin .lss (.t 11) (.t 13), none⟩])
    (.cond (.t 14) .skip
      (.exit 0)))
  (.seq (.blk 1 (.seq (.dreg [
          ⟨some 17, .cp (.t 0), none⟩,
          ⟨some 18, .cp (.t 5), none⟩,
          ⟨some 19, .ia (.t 17) (.t 18) 1 none (some 0), none⟩,
          ⟨some 20, .ld (.t 19) none false none, none⟩,
          ⟨some 21, .cp (.t 1), none⟩,
          ⟨some 22, .cp (.t 5), none⟩,
          ⟨some 23, .ia (.t 21) (.t 22) 1 none (some 1), none⟩,
          ⟨some 24, .ld (.t 23) none false none, none⟩,
          ⟨some 25, .bin .neq (.t 20) (.t 24), none⟩])
        (.cond (.t 25) (.seq (.reg [
              ⟨some 4, .mv (.c (.bool false)), none⟩])
            .ret)
          .skip)))
    (.reg [
      ⟨some 15, .mv (.t 5), none⟩,
      ⟨some 16, .bin .add (.t 15) (.c (.int .i64 1)), none⟩,
      ⟨some 5, .mv (.t 16), none⟩])))
def billingref07_SameInts_l1 : AC := .pre [false, false, false, false, true, false, false, false, false, false, false, true, true, true, true, true, true, true, true, true, true, true, true, true, true, true] billingref07_SameInts_l1b
@[go_sem] theorem billingref07_SameInts_l1_go {M : Mach} {k : List It} {s : St} {Q : Ex → St → Prop} : Run M (.c (.loop billingref07_SameInts_l1) :: k) .norm s Q ↔ Run M (.c billingref07_SameInts_l1b :: .lp billingref07_SameInts_l1 :: k) .norm { s with t := killM [false, false, false, false, true, false, false, false, false, false, false, true, true, true, true, true, true, true, true, true, true, true, true, true, true, true] [false, false, false, false, true, false, false, false, false, false, false, true, true, true, true, true, true, true, true, true, true, true, true, true, true, true] s.t } Q := run_loop_pre
@[go_sem] theorem billingref07_SameInts_l1_lp {M : Mach} {k : List It} {s : St} {Q : Ex → St → Prop} : Run M (.lp billingref07_SameInts_l1 :: k) .norm s Q ↔ Run M (.c billingref07_SameInts_l1b :: .lp billingref07_SameInts_l1 :: k) .norm { s with t := killM [false, false, false, false, true, false, false, false, false, false, false, true, true, true, true, true, true, true, true, true, true, true, true, true, true, true] [false, false, false, false, true, false, false, false, false, false, false, true, true, true, true, true, true, true, true, true, true, true, true, true, true, true] s.t } Q := run_loop_pre
def a_billingref07_SameInts : AF := ⟨26, (.seq (.reg [
    ⟨some 4, .mv (.c (.bool false)), none⟩])
  (.seq (.seq (.reg [
        ⟨some 6, .cp (.t 0), none⟩,
        ⟨some 7, .len false (.t 6) (some 0), none⟩,
        ⟨some 8, .cp (.t 1), none⟩,
        ⟨some 9, .len false (.t 8) (some 1), none⟩,
        ⟨some 10, .bin .neq (.t 7) (.t 9), none⟩])
      (.cond (.t 10) (.seq (.reg [
            ⟨some 4, .mv (.c (.bool false)), none⟩])
          .ret)
        .skip))
    (.seq (.seq (.reg [
          ⟨some 5, .mv (.c (.int .i64 0)), none⟩])
        (.blk 0 (.pre [false, false, false, false, false, false, true, true, true, true, true] (.loop billingref07_SameInts_l1))))
      (.pre [true, true, false, false, true, true, true, true, true, true, true, true, true, true, true, true, true, true, true, true, true, true, true, true, true, true] (.seq (.reg [
          ⟨some 4, .mv (.c (.bool true)), none⟩])
        .ret))))), [.tmp 4]⟩

/- billing/frame.Sum -/
def frame_Sum_l1b : AC := (.seq (.reg [
    ⟨some 9, .bin .lss (.t 8) (.t 7), none⟩])
  (.seq (.cond (.t 9) .skip
      (.exit 0))
    (.seq (.blk 1 (.seq (.reg [
            ⟨some 10, .ia (.t 6) (.t 8) 1 none (some 0), none⟩,
            ⟨some 11, .ld (.t 10) none false none, none⟩,
            ⟨some 5, .mv (.t 11), none⟩])
          (.seq (.reg [
              ⟨some 12, .mv (.t 3), none⟩,
              ⟨some 13, .mv (.t 5), none⟩,
              ⟨some 14, .cvi .u32 (.t 13), none⟩,
              ⟨some 15, .bin .xor (.t 12) (.t 14), none⟩,
              ⟨some 3, .mv (.t 15), none⟩])
            (.reg [
              ⟨some 16, .mv (.t 3), none⟩,
              ⟨some 17, .bin .mul (.t 16) (.c (.int .u32 16777619)), none⟩,
              ⟨some 3, .mv (.t 17), none⟩]))))
      (.reg [
        ⟨some 18, .bin .add (.t 8) (.c (.int .i64 1)), none⟩,
        ⟨some 8, .mv (.t 18), none⟩]))))
def frame_Sum_l1 : AC := .pre [false, false, false, false, false, true, false, false, false, true, true, true, true, true, true, true, true, true, true] frame_Sum_l1b
@[go_sem] theorem frame_Sum_l1_go {M : Mach} {k : List It} {s : St} {Q : Ex → St → Prop} : Run M (.c (.loop frame_Sum_l1) :: k) .norm s Q ↔ Run M (.c frame_Sum_l1b :: .lp frame_Sum_l1 :: k) .norm { s with t := killM [false, false, false, false, false, true, false, false, false, true, true, true, true, true, true, true, true, true, true] [false, false, false, false, false, true, false, false, false, true, true, true, true, true, true, true, true, true, true] s.t } Q := run_loop_pre
@[go_sem] theorem frame_Sum_l1_lp {M : Mach} {k : List It} {s : St} {Q : Ex → St → Prop} : Run M (.lp frame_Sum_l1 :: k) .norm s Q ↔ Run M (.c frame_Sum_l1b :: .lp frame_Sum_l1 :: k) .norm { s with t := killM [false, false, false, false, false, true, false, false, false, true, true, true, true, true, true, true, true, true, true] [false, false, false, false, false, true, false, false, false, true, true, true, true, true, true, true, true, true, true] s.t } Q := run_loop_pre
def a_frame_Sum : AF := ⟨20, (.seq (.reg [
    ⟨some 2, .mv (.c (.int .u32 0)), none⟩])
  (.seq (.reg [
      ⟨some 3, .mv (.c (.int .u32 2166136261)), none⟩])
    (.seq (.seq (.reg [
          ⟨some 6, .cp (.t 0), none⟩,
          ⟨some 7, .len false (.t 6) (some 0), none⟩,
          ⟨some 8, .mv (.c (.int .i64 0)), none⟩])
        (.blk 0 (.pre [false, false, true] (.loop frame_Sum_l1))))
      (.pre [true, false, true, false, false, true, true, true, true, true, true, true, true, true, true, true, true, true, true] (.seq (.reg [
          ⟨some 19, .mv (.t 3), none⟩,
          ⟨some 2, .mv (.t 19), none⟩])
        .ret))))), [.tmp 2]⟩

/- billing/billingref08.Sum -/
def billingref08_Sum_l1b : AC := (.seq (.seq (.reg [
      ⟨some 5, .mv (.t 4), none⟩,
      ⟨some 6, .cp (.t 0), none⟩,
      ⟨some 7, .len false (.t 6) (some 0), none⟩,
      ⟨some 8, .bin .lss (.t 5) (.t 7), none⟩])
    (.cond (.t 8) .skip
      (.exit 0)))
  (.seq (.blk 1 (.reg [
        ⟨some 11, .mv (.t 3), none⟩,
        ⟨some 12, .cp (.t 0), none⟩,
        ⟨some 13, .mv (.t 4), none⟩,
        ⟨some 14, .ia (.t 12) (.t 13) 1 none (some 0), none⟩,
        ⟨some 15, .ld (.t 14) none false none, none⟩,
        ⟨some 16, .cvi .u32 (.t 15), none⟩,
        ⟨some 17, .bin .xor (.t 11) (.t 16), none⟩,
        ⟨some 18, .bin .mul (.t 17) (.c (.int .u32 16777619)), none⟩,
        ⟨some 3, .mv (.t 18), none⟩]))
    (.reg [
      ⟨some 9, .mv (.t 4), none⟩,
      ⟨some 10, .bin .add (.t 9) (.c (.int .i64 1)), none⟩,
      ⟨some 4, .mv (.t 10), none⟩])))
def billingref08_Sum_l1 : AC := .pre [false, false, false, false, false, true, true, true, true, true, true, true, true, true, true, true, true, true, true] billingref08_Sum_l1b
@[go_sem] theorem billingref08_Sum_l1_go {M : Mach} {k : List It} {s : St} {Q : Ex → St → Prop} : Run M (.c (.loop billingref08_Sum_l1) :: k) .norm s Q ↔ Run M (.c billingref08_Sum_l1b :: .lp billingref08_Sum_l1 :: k) .norm { s with t := killM [false, false, false, false, false, true, true, true, true, true, true, true, true, true, true, true, true, true, true] [false, false, false, false, false, true, true, true, true, true, true, true, true, true, true, true, true, true, true] s.t } Q := run_loop_pre
@[go_sem] theorem billingref08_Sum_l1_lp {M : Mach} {k : List It} {s : St} {Q : Ex → St → Prop} : Run M (.lp billingref08_Sum_l1 :: k) .norm s Q ↔ Run M (.c billingref08_Sum_l1b :: .lp billingref08_Sum_l1 :: k) .norm { s with t := killM [false, false, false, false, false, true, true, true, true, true, true, true, true, true, true, true, true, true, true] [false, false, false, false, false, true, true, true, true, true, true, true, true, true, true, true, true, true, true] s.t } Q := run_loop_pre
def a_billingref08_Sum : AF := ⟨20, (.seq (.reg [
    ⟨some 2, .mv (.c (.int .u32 0)), none⟩])
  (.seq (.reg [
      ⟨some 3, .mv (.c (.int .u32 2166136261)), none⟩])
    (.seq (.seq (.reg [
          ⟨some 4, .mv (.c (.int .i64 0)), none⟩])
        (.blk 0 (.pre [false, false, true] (.loop billingref08_Sum_l1))))
      (.pre [true, false, true, false, true, true, true, true, true, true, true, true, true, true, true, true, true, true, true] (.seq (.reg [
          ⟨some 19, .mv (.t 3), none⟩,
          ⟨some 2, .mv (.t 19), none⟩])
        .ret))))), [.tmp 2]⟩

/- billing/billinglaw08.alive -/
def a_billinglaw08_alive : AF := ⟨36, (.seq (.reg [
    ⟨some 0, .mv (.c (.bool false)), none⟩])
  (.seq (.reg [
      ⟨some 6, .bsl 1 1 (.int .u8 0) [(0, (.c (.int .u8 97)))], none⟩,
      ⟨none, .cm 6, none⟩,
      ⟨some 7, .call n_frame_Wrap [((.t 6), false)] false, none⟩,
      ⟨some 5, .mv (.t 7), none⟩,
      ⟨some 8, .ext 5 0, none⟩,
      ⟨none, .cm 8, none⟩,
      ⟨some 9, .ext 5 1, none⟩,
      ⟨some 1, .mv (.t 8), none⟩,
      ⟨none, .cm 1, none⟩,
      ⟨some 2, .mv (.t 9), none⟩])
    (.seq (.reg [
        ⟨some 11, .bsl 1 8 (.int .u8 0) [(0, (.c (.int .u8 2))), (1, (.c (.int .u8 228))), (2, (.c (.int .u8 12))), (3, (.c (.int .u8 41))), (4, (.c (.int .u8 44))), (5, (.c (.int .u8 97))), (6, (.c (.int .u8 2))), (7, (.c (.int .u8 228)))], none⟩,
        ⟨none, .cm 11, none⟩,
        ⟨some 12, .call n_frame_All [((.t 11), false)] false, none⟩,
        ⟨some 10, .mv (.t 12), none⟩,
        ⟨some 13, .ext 10 0, none⟩,
        ⟨none, .cm 13, none⟩,
        ⟨some 14, .ext 10 1, none⟩,
        ⟨some 3, .mv (.t 13), none⟩,
        ⟨none, .cm 3, none⟩,
        ⟨some 4, .mv (.t 14), none⟩])
      (.seq (.reg [
          ⟨some 15, .mv (.t 2), none⟩,
          ⟨some 16, .bin .eql (.t 15) (.c (.int .i64 0)), none⟩,
          ⟨some 17, .mv (.t 16), none⟩,
          ⟨none, .cm 1, none⟩,
          ⟨some 18, .cp (.t 1), some (17, true)⟩,
          ⟨some 19, .bsl 1 6 (.int .u8 0) [(0, (.c (.int .u8 2))), (1, (.c (.int .u8 228))), (2, (.c (.int .u8 12))), (3, (.c (.int .u8 41))), (4, (.c (.int .u8 44))), (5, (.c (.int .u8 97)))], some (17, true)⟩,
          ⟨none, .cm 18, none⟩,
          ⟨none, .cm 19, none⟩,
          ⟨some 20, .call n_billingref07_Same [((.t 18), false), ((.t 19), false)] false, some (17, true)⟩,
          ⟨some 21, .pick (.t 17) (.t 20) (.c (.bool false)), none⟩,
          ⟨some 22, .mv (.t 21), none⟩,
          ⟨some 23, .call n_frame_Sum [((.c (.sl false 1 [])), false)] false, some (22, true)⟩,
          ⟨some 24, .bin .eql (.t 23) (.c (.int .u32 2166136261)), some (22, true)⟩,
          ⟨some 25, .pick (.t 22) (.t 24) (.c (.bool false)), none⟩,
          ⟨some 26, .mv (.t 25), none⟩,
          ⟨none, .cm 3, none⟩,
          ⟨some 27, .cp (.t 3), some (26, true)⟩,
          ⟨some 28, .bsl 1 1 (.int .u8 0) [(0, (.c (.int .u8 97)))], some (26, true)⟩,
          ⟨none, .cm 28, none⟩,
          ⟨some 29, .bsl 1 1 (.sl false 1 []) [(0, (.t 28))], some (26, true)⟩,
          ⟨none, .cm 27, none⟩,
          ⟨none, .cm 29, none⟩,
          ⟨some 30, .call n_billingref08_SameAll [((.t 27), false), ((.t 29), false)] false, some (26, true)⟩,
          ⟨some 31, .pick (.t 26) (.t 30) (.c (.bool false)), none⟩,
          ⟨some 32, .mv (.t 31), none⟩,
          ⟨some 33, .mv (.t 4), some (32, true)⟩,
          ⟨some 34, .bin .eql (.t 33) (.c (.int .i64 6)), some (32, true)⟩,
          ⟨some 35, .pick (.t 32) (.t 34) (.c (.bool false)), none⟩,
          ⟨some 0, .mv (.t 35), none⟩])
        .ret)))), [.tmp 0]⟩

/- billing/frame.All -/
def frame_All_l1b : AC := (.seq (.seq (.reg [
      ⟨some 9, .mv (.t 5), none⟩,
      ⟨some 10, .cp (.t 0), none⟩,
      ⟨some 11, .len false (.t 10) (some 0), none⟩,
      ⟨some 12, .bin .lss (.t 9) (.t 11), none⟩])
    (.cond (.t 12) .skip
      (.exit 0)))
  (.blk 1 (.seq (.reg [
        ⟨some 14, .mv (.t 0), none⟩,
        ⟨some 15, .mv (.t 5), none⟩,
        ⟨some 16, .slc (some 1) (.t 14) (some (.t 15)) none none, none⟩,
        ⟨some 17, .call n_frame_locate [((.t 16), false)] false, none⟩,
        ⟨some 13, .mv (.t 17), none⟩,
        ⟨some 18, .ext 13 0, none⟩,
        ⟨some 19, .ext 13 1, none⟩,
        ⟨some 20, .ext 13 2, none⟩,
        ⟨some 6, .mv (.t 18), none⟩,
        ⟨some 7, .mv (.t 19), none⟩,
        ⟨some 8, .mv (.t 20), none⟩])
      (.seq (.seq (.reg [
            ⟨some 21, .mv (.t 8), none⟩,
            ⟨some 22, .bin .neq (.t 21) (.c (.int .i64 0)), none⟩])
          (.cond (.t 22) (.exit 0)
            .skip))
        (.seq (.reg [
            ⟨some 23, .mv (.t 4), none⟩,
            ⟨some 24, .mv (.t 0), none⟩,
            ⟨some 25, .mv (.t 5), none⟩,
            ⟨some 26, .mv (.t 6), none⟩,
            ⟨some 27, .bin .add (.t 25) (.t 26), none⟩,
            ⟨some 28, .mv (.t 5), none⟩,
            ⟨some 29, .mv (.t 7), none⟩,
            ⟨some 30, .bin .add (.t 28) (.t 29), none⟩,
            ⟨some 31, .call n_frame_copied [((.t 24), false), ((.t 27), false), ((.t 30), false)] false, none⟩,
            ⟨none, .cm 31, none⟩,
            ⟨none, .cm 31, none⟩,
            ⟨some 32, .bsl 1 1 (.sl false 1 []) [(0, (.t 31))], none⟩,
            ⟨some 33, .app 1 24 (.t 23) (.t 32) none, none⟩,
            ⟨some 4, .mv (.t 33), none⟩])
          (.reg [
            ⟨some 34, .mv (.t 5), none⟩,
            ⟨some 35, .mv (.t 7), none⟩,
            ⟨some 36, .bin .add (.t 34) (.t 35), none⟩,
            ⟨some 5, .mv (.t 36), none⟩]))))))
def frame_All_l1 : AC := .pre [false, false, false, false, false, false, true, true, true, true, true, true, true, true, true, true, true, true, true, true, true, true, true, true, true, true, true, true, true, true, true, true, true, true, true, true, true] frame_All_l1b
@[go_sem] theorem frame_All_l1_go {M : Mach} {k : List It} {s : St} {Q : Ex → St → Prop} : Run M (.c (.loop frame_All_l1) :: k) .norm s Q ↔ Run M (.c frame_All_l1b :: .lp frame_All_l1 :: k) .norm { s with t := killM [false, false, false, false, false, false, true, true, true, true, true, true, true, true, true, true, true, true, true, true, true, true, true, true, true, true, true, true, true, true, true, true, true, true, true, true, true] [false, false, false, false, false, false, true, true, true, true, true, true, true, true, true, true, true, true, true, true, true, true, true, true, true, true, true, true, true, true, true, true, true, true, true, true, true] s.t } Q := run_loop_pre
@[go_sem] theorem frame_All_l1_lp {M : Mach} {k : List It} {s : St} {Q : Ex → St → Prop} : Run M (.lp frame_All_l1 :: k) .norm s Q ↔ Run M (.c frame_All_l1b :: .lp frame_All_l1 :: k) .norm { s with t := killM [false, false, false, false, false, false, true, true, true, true, true, true, true, true, true, true, true, true, true, true, true, true, true, true, true, true, true, true, true, true, true, true, true, true, true, true, true] [false, false, false, false, false, false, true, true, true, true, true, true, true, true, true, true, true, true, true, true, true, true, true, true, true, true, true, true, true, true, true, true, true, true, true, true, true] s.t } Q := run_loop_pre
def a_frame_All : AF := ⟨39, (.seq (.reg [
    ⟨some 2, .mv (.c (.sl true 1 [])), none⟩,
    ⟨some 3, .mv (.c (.int .i64 0)), none⟩])
  (.pre [false, false, true] (.seq (.reg [
      ⟨some 4, .mv (.c (.sl true 1 [])), none⟩])
    (.seq (.reg [
        ⟨some 5, .mv (.c (.int .i64 0)), none⟩])
      (.seq (.blk 0 (.pre [false, false, false, true] (.loop frame_All_l1)))
        (.pre [true, false, false, true, false, false, true, true, true, true, true, true, true, true, true, true, true, true, true, true, true, true, true, true, true, true, true, true, true, true, true, true, true, true, true, true, true] (.seq (.reg [
            ⟨some 37, .mv (.t 4), none⟩,
            ⟨some 38, .mv (.t 5), none⟩,
            ⟨some 2, .mv (.t 37), none⟩,
            ⟨some 3, .mv (.t 38), none⟩])
          (.pre [false, false, false, false, true] .ret)))))))), [.tmp 2, .tmp 3]⟩

/- billing/billingref08.All -/
def billingref08_All_l1b : AC := (.seq (.seq (.reg [
      ⟨some 12, .al 5, none⟩,
      ⟨some 13, .len false (.t 12) (some 5), none⟩,
      ⟨some 14, .bin .gtr (.t 13) (.c (.int .i64 0)), none⟩])
    (.cond (.t 14) .skip
      (.exit 0)))
  (.blk 1 (.seq (.reg [
        ⟨none, .cm 5, none⟩,
        ⟨some 16, .cp (.t 5), none⟩,
        ⟨none, .cm 16, none⟩,
        ⟨some 17, .call n_billingref08_Unwrap [((.t 16), false)] false, none⟩,
        ⟨some 15, .mv (.t 17), none⟩,
        ⟨some 18, .ext 15 0, none⟩,
        ⟨none, .cm 18, none⟩,
        ⟨some 19, .ext 15 1, none⟩,
        ⟨none, .cm 19, none⟩,
        ⟨some 20, .ext 15 2, none⟩,
        ⟨some 6, .mv (.t 18), none⟩,
        ⟨none, .cm 6, none⟩,
        ⟨some 7, .mv (.t 19), none⟩,
        ⟨none, .cm 7, none⟩,
        ⟨some 8, .mv (.t 20), none⟩])
      (.seq (.seq (.reg [
            ⟨some 21, .mv (.t 8), none⟩,
            ⟨some 22, .bin .neq (.t 21) (.c (.int .i64 0)), none⟩])
          (.cond (.t 22) (.exit 0)
            .skip))
        (.pre [false, false, false, false, false, true] (.seq (.reg [
            ⟨some 23, .mv (.t 4), none⟩,
            ⟨none, .cm 6, none⟩,
            ⟨some 24, .cp (.t 6), none⟩,
            ⟨none, .cm 24, none⟩,
            ⟨some 25, .bsl 1 1 (.sl false 1 []) [(0, (.t 24))], none⟩,
            ⟨some 26, .app 1 24 (.t 23) (.t 25) none, none⟩,
            ⟨some 4, .mv (.t 26), none⟩])
          (.reg [
            ⟨none, .cm 7, none⟩,
            ⟨some 27, .cp (.t 7), none⟩,
            ⟨some 5, .mv (.t 27), none⟩,
            ⟨none, .cm 5, none⟩])))))))
def billingref08_All_l1 : AC := .pre [false, false, false, false, false, false, true, true, true, false, false, false, true, true, true, true, true, true, true, true, true, true, true, true, true, true, true, true] billingref08_All_l1b
@[go_sem] theorem billingref08_All_l1_go {M : Mach} {k : List It} {s : St} {Q : Ex → St → Prop} : Run M (.c (.loop billingref08_All_l1) :: k) .norm s Q ↔ Run M (.c billingref08_All_l1b :: .lp billingref08_All_l1 :: k) .norm { s with t := killM [false, false, false, false, false, false, true, true, true, false, false, false, true, true, true, true, true, true, true, true, true, true, true, true, true, true, true, true] [false, false, false, false, false, false, true, true, true, false, false, false, true, true, true, true, true, true, true, true, true, true, true, true, true, true, true, true] s.t } Q := run_loop_pre
@[go_sem] theorem billingref08_All_l1_lp {M : Mach} {k : List It} {s : St} {Q : Ex → St → Prop} : Run M (.lp billingref08_All_l1 :: k) .norm s Q ↔ Run M (.c billingref08_All_l1b :: .lp billingref08_All_l1 :: k) .norm { s with t := killM [false, false, false, false, false, false, true, true, true, false, false, false, true, true, true, true, true, true, true, true, true, true, true, true, true, true, true, true] [false, false, false, false, false, false, true, true, true, false, false, false, true, true, true, true, true, true, true, true, true, true, true, true, true, true, true, true] s.t } Q := run_loop_pre
def a_billingref08_All : AF := ⟨34, (.seq (.reg [
    ⟨some 2, .mv (.c (.sl true 1 [])), none⟩,
    ⟨some 3, .mv (.c (.int .i64 0)), none⟩])
  (.pre [false, false, true] (.seq (.reg [
      ⟨some 4, .mv (.c (.sl true 1 [])), none⟩])
    (.seq (.reg [
        ⟨some 9, .bsl 1 0 (.int .u8 0) [], none⟩,
        ⟨some 10, .cp (.t 0), none⟩,
        ⟨some 11, .app 1 1 (.t 9) (.t 10) (some 0), none⟩,
        ⟨none, .cm 11, none⟩,
        ⟨some 5, .mv (.t 11), none⟩,
        ⟨none, .cm 5, none⟩])
      (.seq (.blk 0 (.pre [false, false, false, true, false, false, false, false, false, true, true, true] (.loop billingref08_All_l1)))
        (.pre [false, false, false, true, false, false, true, true, true, true, true, true, true, true, true, true, true, true, true, true, true, true, true, true, true, true, true, true] (.seq (.reg [
            ⟨some 28, .mv (.t 4), none⟩,
            ⟨some 29, .cp (.t 0), none⟩,
            ⟨some 30, .len false (.t 29) (some 0), none⟩,
            ⟨some 31, .al 5, none⟩,
            ⟨some 32, .len false (.t 31) (some 5), none⟩,
            ⟨some 33, .bin .sub (.t 30) (.t 32), none⟩,
            ⟨some 2, .mv (.t 28), none⟩,
            ⟨some 3, .mv (.t 33), none⟩])
          (.pre [false, false, false, false, true, true] .ret)))))))), [.tmp 2, .tmp 3]⟩

/- billing/billingref08.SameAll -/
def billingref08_SameAll_l1b : AC := (.seq (.seq (.reg [
      ⟨some 11, .mv (.t 5), none⟩,
      ⟨some 12, .cp (.t 0), none⟩,
      ⟨some 13, .len false (.t 12) (some 0), none⟩,
      ⟨some 14, .bin .lss (.t 11) (.t 13), none⟩])
    (.cond (.t 14) .skip
      (.exit 0)))
  (.seq (.blk 1 (.seq (.dreg [
          ⟨some 17, .cp (.t 0), none⟩,
          ⟨some 18, .cp (.t 5), none⟩,
          ⟨some 19, .ia (.t 17) (.t 18) 1 none (some 0), none⟩,
          ⟨some 20, .ld (.t 19) none false none, none⟩,
          ⟨some 21, .cvs (.t 20) none, none⟩,
          ⟨some 22, .cp (.t 1), none⟩,
          ⟨some 23, .cp (.t 5), none⟩,
          ⟨some 24, .ia (.t 22) (.t 23) 1 none (some 1), none⟩,
          ⟨some 25, .ld (.t 24) none false none, none⟩,
          ⟨some 26, .cvs (.t 25) none, none⟩,
          ⟨some 27, .bin .neq (.t 21) (.t 26), none⟩])
        (.cond (.t 27) (.seq (.reg [
              ⟨some 4, .mv (.c (.bool false)), none⟩])
            .ret)
          .skip)))
    (.reg [
      ⟨some 15, .mv (.t 5), none⟩,
      ⟨some 16, .bin .add (.t 15) (.c (.int .i64 1)), none⟩,
      ⟨some 5, .mv (.t 16), none⟩])))
def billingref08_SameAll_l1 : AC := .pre [false, false, false, false, true, false, false, false, false, false, false, true, true, true, true, true, true, true, true, true, true, true, true, true, true, true, true, true] billingref08_SameAll_l1b
@[go_sem] theorem billingref08_SameAll_l1_go {M : Mach} {k : List It} {s : St} {Q : Ex → St → Prop} : Run M (.c (.loop billingref08_SameAll_l1) :: k) .norm s Q ↔ Run M (.c billingref08_SameAll_l1b :: .lp billingref08_SameAll_l1 :: k) .norm { s with t := killM [false, false, false, false, true, false, false, false, false, false, false, true, true, true, true, true, true, true, true, true, true, true, true, true, true, true, true, true] [false, false, false, false, true, false, false, false, false, false, false, true, true, true, true, true, true, true, true, true, true, true, true, true, true, true, true, true] s.t } Q := run_loop_pre
@[go_sem] theorem billingref08_SameAll_l1_lp {M : Mach} {k : List It} {s : St} {Q : Ex → St → Prop} : Run M (.lp billingref08_SameAll_l1 :: k) .norm s Q ↔ Run M (.c billingref08_SameAll_l1b :: .lp billingref08_SameAll_l1 :: k) .norm { s with t := killM [false, false, false, false, true, false, false, false, false, false, false, true, true, true, true, true, true, true, true, true, true, true, true, true, true, true, true, true] [false, false, false, false, true, false, false, false, false, false, false, true, true, true, true, true, true, true, true, true, true, true, true, true, true, true, true, true] s.t } Q := run_loop_pre
def a_billingref08_SameAll : AF := ⟨28, (.seq (.reg [
    ⟨some 4, .mv (.c (.bool false)), none⟩])
  (.seq (.seq (.reg [
        ⟨some 6, .cp (.t 0), none⟩,
        ⟨some 7, .len false (.t 6) (some 0), none⟩,
        ⟨some 8, .cp (.t 1), none⟩,
        ⟨some 9, .len false (.t 8) (some 1), none⟩,
        ⟨some 10, .bin .neq (.t 7) (.t 9), none⟩])
      (.cond (.t 10) (.seq (.reg [
            ⟨some 4, .mv (.c (.bool false)), none⟩])
          .ret)
        .skip))
    (.seq (.seq (.reg [
          ⟨some 5, .mv (.c (.int .i64 0)), none⟩])
        (.blk 0 (.pre [false, false, false, false, false, false, true, true, true, true, true] (.loop billingref08_SameAll_l1))))
      (.pre [true, true, false, false, true, true, true, true, true, true, true, true, true, true, true, true, true, true, true, true, true, true, true, true, true, true, true, true] (.seq (.reg [
          ⟨some 4, .mv (.c (.bool true)), none⟩])
        .ret))))), [.tmp 4]⟩

/- billing/frame.Unwrap -/
def a_frame_Unwrap : AF := ⟨26, (.seq (.reg [
    ⟨some 2, .mv (.c (.sl true 1 [])), none⟩,
    ⟨some 3, .mv (.c (.sl true 1 [])), none⟩,
    ⟨some 4, .mv (.c (.int .i64 0)), none⟩])
  (.pre [false, false, true, true] (.seq (.reg [
      ⟨some 9, .mv (.t 0), none⟩,
      ⟨some 10, .call n_frame_locate [((.t 9), false)] false, none⟩,
      ⟨some 8, .mv (.t 10), none⟩,
      ⟨some 11, .ext 8 0, none⟩,
      ⟨some 12, .ext 8 1, none⟩,
      ⟨some 13, .ext 8 2, none⟩,
      ⟨some 5, .mv (.t 11), none⟩,
      ⟨some 6, .mv (.t 12), none⟩,
      ⟨some 7, .mv (.t 13), none⟩])
    (.seq (.seq (.reg [
          ⟨some 14, .mv (.t 7), none⟩,
          ⟨some 15, .bin .neq (.t 14) (.c (.int .i64 0)), none⟩])
        (.cond (.t 15) (.seq (.reg [
              ⟨some 16, .mv (.t 7), none⟩,
              ⟨some 2, .mv (.c (.sl true 1 [])), none⟩,
              ⟨some 3, .mv (.c (.sl true 1 [])), none⟩,
              ⟨some 4, .mv (.t 16), none⟩])
            .ret)
          .skip))
      (.pre [false, false, true, true] (.seq (.reg [
          ⟨some 17, .mv (.t 0), none⟩,
          ⟨some 18, .mv (.t 5), none⟩,
          ⟨some 19, .mv (.t 6), none⟩,
          ⟨some 20, .call n_frame_copied [((.t 17), false), ((.t 18), false), ((.t 19), false)] false, none⟩,
          ⟨some 21, .mv (.t 0), none⟩,
          ⟨some 22, .mv (.t 6), none⟩,
          ⟨some 23, .cp (.t 0), none⟩,
          ⟨some 24, .len false (.t 23) (some 0), none⟩,
          ⟨some 25, .call n_frame_copied [((.t 21), false), ((.t 22), false), ((.t 24), false)] false, none⟩,
          ⟨some 2, .mv (.t 20), none⟩,
          ⟨some 3, .mv (.t 25), none⟩,
          ⟨some 4, .mv (.c (.int .i64 0)), none⟩])
        .ret)))))), [.tmp 2, .tmp 3, .tmp 4]⟩

/- billing/billingref08.Unwrap -/
def a_billingref08_Unwrap : AF := ⟨71, (.seq (.reg [
    ⟨some 2, .mv (.c (.sl true 1 [])), none⟩,
    ⟨some 3, .mv (.c (.sl true 1 [])), none⟩,
    ⟨some 4, .mv (.c (.int .i64 0)), none⟩])
  (.pre [false, false, true, true] (.seq (.reg [
      ⟨some 11, .mv (.t 0), none⟩,
      ⟨some 12, .call n_billingref07_Number [((.t 11), false)] false, none⟩,
      ⟨some 10, .mv (.t 12), none⟩,
      ⟨some 13, .ext 10 0, none⟩,
      ⟨some 14, .ext 10 1, none⟩,
      ⟨none, .cm 14, none⟩,
      ⟨some 15, .ext 10 2, none⟩,
      ⟨some 5, .mv (.t 13), none⟩,
      ⟨some 6, .mv (.t 14), none⟩,
      ⟨none, .cm 6, none⟩,
      ⟨some 7, .mv (.t 15), none⟩])
    (.seq (.blk 0 (.seq (.reg [
            ⟨some 17, .mv (.t 7), none⟩,
            ⟨some 18, .bin .neq (.t 17) (.c (.int .i64 0)), none⟩,
            ⟨some 16, .mv (.t 18), none⟩])
          (.cond (.t 16) (.seq (.reg [
                ⟨some 19, .mv (.t 7), none⟩,
                ⟨some 2, .mv (.c (.sl true 1 [])), none⟩,
                ⟨some 3, .mv (.c (.sl true 1 [])), none⟩,
                ⟨some 4, .mv (.t 19), none⟩])
              .ret)
            (.seq (.reg [
                ⟨some 21, .mv (.t 5), none⟩,
                ⟨some 22, .bin .lss (.t 21) (.c (.int .i64 0)), none⟩,
                ⟨some 20, .mv (.t 22), none⟩])
              (.cond (.t 20) (.seq (.reg [
                    ⟨some 2, .mv (.c (.sl true 1 [])), none⟩,
                    ⟨some 3, .mv (.c (.sl true 1 [])), none⟩,
                    ⟨some 4, .mv (.c (.int .i64 1)), none⟩])
                  .ret)
                (.seq (.reg [
                    ⟨some 24, .mv (.t 5), none⟩,
                    ⟨some 25, .bin .gtr (.t 24) (.c (.int .i64 1048576)), none⟩,
                    ⟨some 23, .mv (.t 25), none⟩])
                  (.cond (.t 23) (.seq (.reg [
                        ⟨some 2, .mv (.c (.sl true 1 [])), none⟩,
                        ⟨some 3, .mv (.c (.sl true 1 [])), none⟩,
                        ⟨some 4, .mv (.c (.int .i64 5)), none⟩])
                      .ret)
                    (.seq (.reg [
                        ⟨some 27, .al 6, none⟩,
                        ⟨some 28, .len false (.t 27) (some 6), none⟩,
                        ⟨some 29, .mv (.t 5), none⟩,
                        ⟨some 30, .bin .add (.c (.int .i64 4)) (.t 29), none⟩,
                        ⟨some 31, .bin .lss (.t 28) (.t 30), none⟩,
                        ⟨some 26, .mv (.t 31), none⟩])
                      (.cond (.t 26) (.seq (.reg [
                            ⟨some 2, .mv (.c (.sl true 1 [])), none⟩,
                            ⟨some 3, .mv (.c (.sl true 1 [])), none⟩,
                            ⟨some 4, .mv (.c (.int .i64 2)), none⟩])
                          .ret)
                        .skip)))))))))
      (.pre [false, false, true, true] (.seq (.reg [
          ⟨some 32, .bsl 1 0 (.int .u8 0) [], none⟩,
          ⟨none, .cm 6, none⟩,
          ⟨some 33, .cp (.t 6), none⟩,
          ⟨some 34, .mv (.t 5), none⟩,
          ⟨some 35, .bin .add (.c (.int .i64 4)) (.t 34), none⟩,
          ⟨none, .cm 33, none⟩,
          ⟨some 36, .slc (some 1) (.t 33) (some (.c (.int .i64 4))) (some (.t 35)) none, none⟩,
          ⟨some 37, .app 1 1 (.t 32) (.t 36) none, none⟩,
          ⟨some 8, .mv (.t 37), none⟩])
        (.seq (.dreg [
            ⟨some 38, .al 6, none⟩,
            ⟨some 39, .ia (.t 38) (.c (.int .i64 0)) 1 none (some 6), none⟩,
            ⟨some 40, .ld (.t 39) none false none, none⟩,
            ⟨some 41, .cvi .u32 (.t 40), none⟩,
            ⟨some 42, .bin .shl (.t 41) (.c (.int .u64 24)), none⟩,
            ⟨some 43, .al 6, none⟩,
            ⟨some 44, .ia (.t 43) (.c (.int .i64 1)) 1 none (some 6), none⟩,
            ⟨some 45, .ld (.t 44) none false none, none⟩,
            ⟨some 46, .cvi .u32 (.t 45), none⟩,
            ⟨some 47, .bin .shl (.t 46) (.c (.int .u64 16)), none⟩,
            ⟨some 48, .bin .add (.t 42) (.t 47), none⟩,
            ⟨some 49, .al 6, none⟩,
            ⟨some 50, .ia (.t 49) (.c (.int .i64 2)) 1 none (some 6), none⟩,
            ⟨some 51, .ld (.t 50) none false none, none⟩,
            ⟨some 52, .cvi .u32 (.t 51), none⟩,
            ⟨some 53, .bin .shl (.t 52) (.c (.int .u64 8)), none⟩,
            ⟨some 54, .bin .add (.t 48) (.t 53), none⟩,
            ⟨some 55, .al 6, none⟩,
            ⟨some 56, .ia (.t 55) (.c (.int .i64 3)) 1 none (some 6), none⟩,
            ⟨some 57, .ld (.t 56) none false none, none⟩,
            ⟨some 58, .cvi .u32 (.t 57), none⟩,
            ⟨some 59, .bin .add (.t 54) (.t 58), none⟩,
            ⟨some 9, .cp (.t 59), none⟩])
          (.seq (.seq (.reg [
                ⟨none, .cm 8, none⟩,
                ⟨some 60, .cp (.t 8), none⟩,
                ⟨none, .cm 60, none⟩,
                ⟨some 61, .call n_billingref08_Sum [((.t 60), false)] false, none⟩,
                ⟨some 62, .mv (.t 9), none⟩,
                ⟨some 63, .bin .neq (.t 61) (.t 62), none⟩])
              (.cond (.t 63) (.seq (.reg [
                    ⟨some 2, .mv (.c (.sl true 1 [])), none⟩,
                    ⟨some 3, .mv (.c (.sl true 1 [])), none⟩,
                    ⟨some 4, .mv (.c (.int .i64 4)), none⟩])
                  .ret)
                .skip))
            (.pre [false, false, true, true] (.seq (.reg [
                ⟨some 64, .mv (.t 8), none⟩,
                ⟨some 65, .bsl 1 0 (.int .u8 0) [], none⟩,
                ⟨none, .cm 6, none⟩,
                ⟨some 66, .cp (.t 6), none⟩,
                ⟨some 67, .mv (.t 5), none⟩,
                ⟨some 68, .bin .add (.c (.int .i64 4)) (.t 67), none⟩,
                ⟨none, .cm 66, none⟩,
                ⟨some 69, .slc (some 1) (.t 66) (some (.t 68)) none none, none⟩,
                ⟨some 70, .app 1 1 (.t 65) (.t 69) none, none⟩,
                ⟨some 2, .mv (.t 64), none⟩,
                ⟨some 3, .mv (.t 70), none⟩,
                ⟨some 4, .mv (.c (.int .i64 0)), none⟩])
              .ret)))))))))), [.tmp 2, .tmp 3, .tmp 4]⟩

/- billing/frame.Wrap -/
def a_frame_Wrap : AF := ⟨13, (.seq (.reg [
    ⟨some 2, .mv (.c (.sl true 1 [])), none⟩,
    ⟨some 3, .mv (.c (.int .i64 0)), none⟩])
  (.pre [false, false, true] (.seq (.seq (.reg [
        ⟨some 4, .cp (.t 0), none⟩,
        ⟨some 5, .len false (.t 4) (some 0), none⟩,
        ⟨some 6, .bin .gtr (.t 5) (.c (.int .i64 1048576)), none⟩])
      (.cond (.t 6) (.seq (.reg [
            ⟨some 2, .mv (.c (.sl true 1 [])), none⟩,
            ⟨some 3, .mv (.c (.int .i64 5)), none⟩])
          .ret)
        .skip))
    (.pre [false, false, true] (.seq (.reg [
        ⟨some 7, .cp (.t 0), none⟩,
        ⟨some 8, .len false (.t 7) (some 0), none⟩,
        ⟨some 9, .bin .add (.t 8) (.c (.int .i64 14)), none⟩,
        ⟨some 10, .mk 1 1 (.int .u8 0) (.c (.int .i64 0)) (.t 9), none⟩,
        ⟨some 11, .mv (.t 0), none⟩,
        ⟨some 12, .call n_frame_wrap [((.t 10), true), ((.t 11), false)] false, none⟩,
        ⟨some 2, .mv (.t 12), none⟩,
        ⟨some 3, .mv (.c (.int .i64 0)), none⟩])
      .ret))))), [.tmp 2, .tmp 3]⟩

/- billing/billinglaw08.few -/
def billinglaw08_few_l1b : AC := (.seq (.seq (.reg [
      ⟨some 7, .mv (.t 3), none⟩,
      ⟨some 8, .cp (.t 0), none⟩,
      ⟨some 9, .len false (.t 8) (some 0), none⟩,
      ⟨some 10, .bin .lss (.t 7) (.t 9), none⟩])
    (.cond (.t 10) .skip
      (.exit 0)))
  (.seq (.blk 1 (.seq (.reg [
          ⟨some 13, .cp (.t 0), none⟩,
          ⟨some 14, .mv (.t 3), none⟩,
          ⟨some 15, .ia (.t 13) (.t 14) 1 none (some 0), none⟩,
          ⟨some 16, .ld (.t 15) none false none, none⟩,
          ⟨some 17, .len false (.t 16) none, none⟩,
          ⟨some 18, .bin .gtr (.t 17) (.c (.int .i64 60)), none⟩])
        (.cond (.t 18) (.seq (.reg [
              ⟨some 2, .mv (.c (.bool false)), none⟩])
            .ret)
          .skip)))
    (.reg [
      ⟨some 11, .mv (.t 3), none⟩,
      ⟨some 12, .bin .add (.t 11) (.c (.int .i64 1)), none⟩,
      ⟨some 3, .mv (.t 12), none⟩])))
def billinglaw08_few_l1 : AC := .pre [false, false, true, false, false, false, false, true, true, true, true, true, true, true, true, true, true, true, true] billinglaw08_few_l1b
@[go_sem] theorem billinglaw08_few_l1_go {M : Mach} {k : List It} {s : St} {Q : Ex → St → Prop} : Run M (.c (.loop billinglaw08_few_l1) :: k) .norm s Q ↔ Run M (.c billinglaw08_few_l1b :: .lp billinglaw08_few_l1 :: k) .norm { s with t := killM [false, false, true, false, false, false, false, true, true, true, true, true, true, true, true, true, true, true, true] [false, false, true, false, false, false, false, true, true, true, true, true, true, true, true, true, true, true, true] s.t } Q := run_loop_pre
@[go_sem] theorem billinglaw08_few_l1_lp {M : Mach} {k : List It} {s : St} {Q : Ex → St → Prop} : Run M (.lp billinglaw08_few_l1 :: k) .norm s Q ↔ Run M (.c billinglaw08_few_l1b :: .lp billinglaw08_few_l1 :: k) .norm { s with t := killM [false, false, true, false, false, false, false, true, true, true, true, true, true, true, true, true, true, true, true] [false, false, true, false, false, false, false, true, true, true, true, true, true, true, true, true, true, true, true] s.t } Q := run_loop_pre
def a_billinglaw08_few : AF := ⟨19, (.seq (.reg [
    ⟨some 2, .mv (.c (.bool false)), none⟩])
  (.seq (.seq (.reg [
        ⟨some 4, .cp (.t 0), none⟩,
        ⟨some 5, .len false (.t 4) (some 0), none⟩,
        ⟨some 6, .bin .gtr (.t 5) (.c (.int .i64 12)), none⟩])
      (.cond (.t 6) (.seq (.reg [
            ⟨some 2, .mv (.c (.bool false)), none⟩])
          .ret)
        .skip))
    (.seq (.seq (.reg [
          ⟨some 3, .mv (.c (.int .i64 0)), none⟩])
        (.blk 0 (.pre [false, false, false, false, true, true, true] (.loop billinglaw08_few_l1))))
      (.pre [true, false, true, true, true, true, true, true, true, true, true, true, true, true, true, true, true, true, true] (.seq (.reg [
          ⟨some 2, .mv (.c (.bool true)), none⟩])
        .ret))))), [.tmp 2]⟩

/- billing/billingref08.Wrap -/
def a_billingref08_Wrap : AF := ⟨31, (.seq (.reg [
    ⟨some 2, .mv (.c (.sl true 1 [])), none⟩,
    ⟨some 3, .mv (.c (.int .i64 0)), none⟩])
  (.pre [false, false, true] (.seq (.seq (.reg [
        ⟨some 6, .cp (.t 0), none⟩,
        ⟨some 7, .len false (.t 6) (some 0), none⟩,
        ⟨some 8, .bin .gtr (.t 7) (.c (.int .i64 1048576)), none⟩])
      (.cond (.t 8) (.seq (.reg [
            ⟨some 2, .mv (.c (.sl true 1 [])), none⟩,
            ⟨some 3, .mv (.c (.int .i64 5)), none⟩])
          .ret)
        .skip))
    (.pre [false, false, true] (.seq (.reg [
        ⟨some 9, .mv (.t 0), none⟩,
        ⟨some 10, .call n_billingref08_Sum [((.t 9), false)] false, none⟩,
        ⟨some 4, .mv (.t 10), none⟩])
      (.seq (.reg [
          ⟨some 11, .cp (.t 0), none⟩,
          ⟨some 12, .len false (.t 11) (some 0), none⟩,
          ⟨some 13, .call n_billingref07_PutNumber [((.c (.sl false 1 [])), false), ((.t 12), false)] false, none⟩,
          ⟨some 5, .mv (.t 13), none⟩])
        (.seq (.reg [
            ⟨some 14, .mv (.t 5), none⟩,
            ⟨some 15, .mv (.t 4), none⟩,
            ⟨some 16, .bin .shr (.t 15) (.c (.int .u64 24)), none⟩,
            ⟨some 17, .cvi .u8 (.t 16), none⟩,
            ⟨some 18, .mv (.t 4), none⟩,
            ⟨some 19, .bin .shr (.t 18) (.c (.int .u64 16)), none⟩,
            ⟨some 20, .cvi .u8 (.t 19), none⟩,
            ⟨some 21, .mv (.t 4), none⟩,
            ⟨some 22, .bin .shr (.t 21) (.c (.int .u64 8)), none⟩,
            ⟨some 23, .cvi .u8 (.t 22), none⟩,
            ⟨some 24, .mv (.t 4), none⟩,
            ⟨some 25, .cvi .u8 (.t 24), none⟩,
            ⟨some 26, .bsl 1 4 (.int .u8 0) [(0, (.t 17)), (1, (.t 20)), (2, (.t 23)), (3, (.t 25))], none⟩,
            ⟨some 27, .app 1 1 (.t 14) (.t 26) none, none⟩,
            ⟨some 5, .mv (.t 27), none⟩])
          (.seq (.reg [
              ⟨some 28, .mv (.t 5), none⟩,
              ⟨some 29, .cp (.t 0), none⟩,
              ⟨some 30, .app 1 1 (.t 28) (.t 29) (some 0), none⟩,
              ⟨some 2, .mv (.t 30), none⟩,
              ⟨some 3, .mv (.c (.int .i64 0)), none⟩])
            (.pre [false, false, false, false, false, true] .ret))))))))), [.tmp 2, .tmp 3]⟩

/- billing/frame.Join -/
def frame_Join_l1b : AC := (.seq (.reg [
    ⟨some 10, .bin .lss (.t 9) (.t 8), none⟩])
  (.pre [false, false, true] (.seq (.cond (.t 10) .skip
      (.exit 0))
    (.seq (.blk 1 (.seq (.reg [
            ⟨some 11, .ia (.t 7) (.t 9) 1 none (some 0), none⟩,
            ⟨some 12, .ld (.t 11) none false none, none⟩,
            ⟨some 6, .mv (.t 12), none⟩])
          (.seq (.seq (.reg [
                ⟨some 13, .cp (.t 6), none⟩,
                ⟨some 14, .len false (.t 13) (some 6), none⟩,
                ⟨some 15, .bin .gtr (.t 14) (.c (.int .i64 1048576)), none⟩])
              (.cond (.t 15) (.seq (.reg [
                    ⟨some 2, .mv (.c (.sl true 1 [])), none⟩,
                    ⟨some 3, .mv (.c (.int .i64 5)), none⟩])
                  (.pre [false, false, false, false, true] .ret))
                .skip))
            (.pre [false, false, true] (.reg [
              ⟨some 16, .mv (.t 4), none⟩,
              ⟨some 17, .mv (.t 6), none⟩,
              ⟨some 18, .call n_frame_wrap [((.t 16), true), ((.t 17), false)] false, none⟩,
              ⟨some 4, .mv (.t 18), none⟩])))))
      (.pre [false, false, true] (.reg [
        ⟨some 19, .bin .add (.t 9) (.c (.int .i64 1)), none⟩,
        ⟨some 9, .mv (.t 19), none⟩]))))))
def frame_Join_l1 : AC := .pre [false, false, true, true, false, false, true, false, false, false, true, true, true, true, true, true, true, true, true, true] frame_Join_l1b
@[go_sem] theorem frame_Join_l1_go {M : Mach} {k : List It} {s : St} {Q : Ex → St → Prop} : Run M (.c (.loop frame_Join_l1) :: k) .norm s Q ↔ Run M (.c frame_Join_l1b :: .lp frame_Join_l1 :: k) .norm { s with t := killM [false, false, true, true, false, false, true, false, false, false, true, true, true, true, true, true, true, true, true, true] [false, false, true, true, false, false, true, false, false, false, true, true, true, true, true, true, true, true, true, true] s.t } Q := run_loop_pre
@[go_sem] theorem frame_Join_l1_lp {M : Mach} {k : List It} {s : St} {Q : Ex → St → Prop} : Run M (.lp frame_Join_l1 :: k) .norm s Q ↔ Run M (.c frame_Join_l1b :: .lp frame_Join_l1 :: k) .norm { s with t := killM [false, false, true, true, false, false, true, false, false, false, true, true, true, true, true, true, true, true, true, true] [false, false, true, true, false, false, true, false, false, false, true, true, true, true, true, true, true, true, true, true] s.t } Q := run_loop_pre
def a_frame_Join : AF := ⟨21, (.seq (.reg [
    ⟨some 2, .mv (.c (.sl true 1 [])), none⟩,
    ⟨some 3, .mv (.c (.int .i64 0)), none⟩])
  (.pre [false, false, true] (.seq (.reg [
      ⟨some 4, .mv (.c (.sl true 1 [])), none⟩])
    (.seq (.seq (.reg [
          ⟨some 7, .cp (.t 0), none⟩,
          ⟨some 8, .len false (.t 7) (some 0), none⟩,
          ⟨some 9, .mv (.c (.int .i64 0)), none⟩])
        (.blk 0 (.loop frame_Join_l1)))
      (.pre [true, false, true, true, false, false, true, true, true, true, true, true, true, true, true, true, true, true, true, true] (.seq (.reg [
          ⟨some 20, .mv (.t 4), none⟩,
          ⟨some 2, .mv (.t 20), none⟩,
          ⟨some 3, .mv (.c (.int .i64 0)), none⟩])
        (.pre [false, false, false, false, true] .ret))))))), [.tmp 2, .tmp 3]⟩

/- billing/billingref08.Join -/
def billingref08_Join_l1b : AC := (.seq (.seq (.reg [
      ⟨some 8, .mv (.t 5), none⟩,
      ⟨some 9, .cp (.t 0), none⟩,
      ⟨some 10, .len false (.t 9) (some 0), none⟩,
      ⟨some 11, .bin .lss (.t 8) (.t 10), none⟩])
    (.pre [false, false, true] (.cond (.t 11) .skip
      (.exit 0))))
  (.pre [false, false, true] (.seq (.blk 1 (.seq (.reg [
          ⟨some 15, .cp (.t 0), none⟩,
          ⟨some 16, .mv (.t 5), none⟩,
          ⟨some 17, .ia (.t 15) (.t 16) 1 none (some 0), none⟩,
          ⟨some 18, .ld (.t 17) none false none, none⟩,
          ⟨some 19, .call n_billingref08_Wrap [((.t 18), false)] false, none⟩,
          ⟨some 14, .mv (.t 19), none⟩,
          ⟨some 20, .ext 14 0, none⟩,
          ⟨none, .cm 20, none⟩,
          ⟨some 21, .ext 14 1, none⟩,
          ⟨some 6, .mv (.t 20), none⟩,
          ⟨none, .cm 6, none⟩,
          ⟨some 7, .mv (.t 21), none⟩])
        (.seq (.seq (.reg [
              ⟨some 22, .mv (.t 7), none⟩,
              ⟨some 23, .bin .neq (.t 22) (.c (.int .i64 0)), none⟩])
            (.cond (.t 23) (.seq (.reg [
                  ⟨some 24, .mv (.t 7), none⟩,
                  ⟨some 2, .mv (.c (.sl true 1 [])), none⟩,
                  ⟨some 3, .mv (.t 24), none⟩])
                (.pre [false, false, false, false, true] .ret))
              .skip))
          (.pre [false, false, true] (.reg [
            ⟨some 25, .mv (.t 4), none⟩,
            ⟨some 26, .al 6, none⟩,
            ⟨some 27, .app 1 1 (.t 25) (.t 26) (some 6), none⟩,
            ⟨some 4, .mv (.t 27), none⟩])))))
    (.pre [false, false, true] (.reg [
      ⟨some 12, .mv (.t 5), none⟩,
      ⟨some 13, .bin .add (.t 12) (.c (.int .i64 1)), none⟩,
      ⟨some 5, .mv (.t 13), none⟩])))))
def billingref08_Join_l1 : AC := .pre [false, false, true, true, false, false, true, true, true, true, true, true, true, true, true, true, true, true, true, true, true, true, true, true, true, true, true, true] billingref08_Join_l1b
@[go_sem] theorem billingref08_Join_l1_go {M : Mach} {k : List It} {s : St} {Q : Ex → St → Prop} : Run M (.c (.loop billingref08_Join_l1) :: k) .norm s Q ↔ Run M (.c billingref08_Join_l1b :: .lp billingref08_Join_l1 :: k) .norm { s with t := killM [false, false, true, true, false, false, true, true, true, true, true, true, true, true, true, true, true, true, true, true, true, true, true, true, true, true, true, true] [false, false, true, true, false, false, true, true, true, true, true, true, true, true, true, true, true, true, true, true, true, true, true, true, true, true, true, true] s.t } Q := run_loop_pre
@[go_sem] theorem billingref08_Join_l1_lp {M : Mach} {k : List It} {s : St} {Q : Ex → St → Prop} : Run M (.lp billingref08_Join_l1 :: k) .norm s Q ↔ Run M (.c billingref08_Join_l1b :: .lp billingref08_Join_l1 :: k) .norm { s with t := killM [false, false, true, true, false, false, true, true, true, true, true, true, true, true, true, true, true, true, true, true, true, true, true, true, true, true, true, true] [false, false, true, true, false, false, true, true, true, true, true, true, true, true, true, true, true, true, true, true, true, true, true, true, true, true, true, true] s.t } Q := run_loop_pre
def a_billingref08_Join : AF := ⟨29, (.seq (.reg [
    ⟨some 2, .mv (.c (.sl true 1 [])), none⟩,
    ⟨some 3, .mv (.c (.int .i64 0)), none⟩])
  (.pre [false, false, true] (.seq (.reg [
      ⟨some 4, .mv (.c (.sl true 1 [])), none⟩])
    (.seq (.seq (.reg [
          ⟨some 5, .mv (.c (.int .i64 0)), none⟩])
        (.blk 0 (.loop billingref08_Join_l1)))
      (.pre [true, false, true, true, false, true, true, true, true, true, true, true, true, true, true, true, true, true, true, true, true, true, true, true, true, true, true, true] (.seq (.reg [
          ⟨some 28, .mv (.t 4), none⟩,
          ⟨some 2, .mv (.t 28), none⟩,
          ⟨some 3, .mv (.c (.int .i64 0)), none⟩])
        (.pre [false, false, false, false, true] .ret))))))), [.tmp 2, .tmp 3]⟩

/- billing/codec.Record -/
def a_codec_Record : AF := ⟨63, (.seq (.reg [
    ⟨some 2, .newbox [(.int .i64 0), (.int .i64 0), (.int .i64 0), (.str []), (.str []), (.int .i64 0), (.int .i64 0), (.int .i64 0), (.int .i64 0), (.bool false), (.int .i64 0), (.bool false)], none⟩,
    ⟨some 3, .mv (.c (.sl true 1 [])), none⟩,
    ⟨some 4, .mv (.c (.int .i64 0)), none⟩])
  (.pre [false, false, false, true] (.seq (.reg [
      ⟨some 7, .mv (.t 0), none⟩,
      ⟨some 8, .build [(.sl false 1 []), (.int .i64 0), (.int .i64 0)] [(0, 1, (.t 7))], none⟩,
      ⟨some 9, .boxo (.t 8), none⟩,
      ⟨some 5, .mv (.t 9), none⟩])
    (.seq (.reg [
        ⟨some 6, .newbox [(.int .i64 0), (.int .i64 0), (.int .i64 0), (.str []), (.str []), (.int .i64 0), (.int .i64 0), (.int .i64 0), (.int .i64 0), (.bool false), (.int .i64 0), (.bool false)], none⟩])
      (.seq (.reg [
          ⟨some 10, .mv (.t 5), none⟩,
          ⟨some 11, .call n_codec_source_number [((.t 10), false)] true, none⟩,
          ⟨some 12, .fa (.t 6) 0 (some 6), none⟩,
          ⟨none, .st (.t 12) (.t 11) 1 false (some 6), none⟩])
        (.seq (.reg [
            ⟨some 13, .mv (.t 5), none⟩,
            ⟨some 14, .call n_codec_source_number [((.t 13), false)] true, none⟩,
            ⟨some 15, .fa (.t 6) 1 (some 6), none⟩,
            ⟨none, .st (.t 15) (.t 14) 1 false (some 6), none⟩])
          (.seq (.reg [
              ⟨some 16, .mv (.t 5), none⟩,
              ⟨some 17, .call n_codec_source_number [((.t 16), false)] true, none⟩,
              ⟨some 18, .fa (.t 6) 2 (some 6), none⟩,
              ⟨none, .st (.t 18) (.t 17) 1 false (some 6), none⟩])
            (.seq (.reg [
                ⟨some 19, .mv (.t 5), none⟩,
                ⟨some 20, .call n_codec_source_text [((.t 19), false)] true, none⟩,
                ⟨some 21, .fa (.t 6) 3 (some 6), none⟩,
                ⟨none, .st (.t 21) (.t 20) 1 false (some 6), none⟩])
              (.seq (.reg [
                  ⟨some 22, .mv (.t 5), none⟩,
                  ⟨some 23, .call n_codec_source_text [((.t 22), false)] true, none⟩,
                  ⟨some 24, .fa (.t 6) 4 (some 6), none⟩,
                  ⟨none, .st (.t 24) (.t 23) 1 false (some 6), none⟩])
                (.seq (.reg [
                    ⟨some 25, .mv (.t 5), none⟩,
                    ⟨some 26, .call n_codec_source_number [((.t 25), false)] true, none⟩,
                    ⟨some 27, .fa (.t 6) 5 (some 6), none⟩,
                    ⟨none, .st (.t 27) (.t 26) 1 false (some 6), none⟩])
                  (.seq (.reg [
                      ⟨some 28, .mv (.t 5), none⟩,
                      ⟨some 29, .call n_codec_source_number [((.t 28), false)] true, none⟩,
                      ⟨some 30, .fa (.t 6) 6 (some 6), none⟩,
                      ⟨none, .st (.t 30) (.t 29) 1 false (some 6), none⟩])
                    (.seq (.reg [
                        ⟨some 31, .mv (.t 5), none⟩,
                        ⟨some 32, .call n_codec_source_number [((.t 31), false)] true, none⟩,
                        ⟨some 33, .fa (.t 6) 7 (some 6), none⟩,
                        ⟨none, .st (.t 33) (.t 32) 1 false (some 6), none⟩])
                      (.seq (.reg [
                          ⟨some 34, .mv (.t 5), none⟩,
                          ⟨some 35, .call n_codec_source_number [((.t 34), false)] true, none⟩,
                          ⟨some 36, .fa (.t 6) 8 (some 6), none⟩,
                          ⟨none, .st (.t 36) (.t 35) 1 false (some 6), none⟩])
                        (.seq (.reg [
                            ⟨some 37, .mv (.t 5), none⟩,
                            ⟨some 38, .call n_codec_source_flag [((.t 37), false)] true, none⟩,
                            ⟨some 39, .fa (.t 6) 9 (some 6), none⟩,
                            ⟨none, .st (.t 39) (.t 38) 1 false (some 6), none⟩])
                          (.seq (.reg [
                              ⟨some 40, .mv (.t 5), none⟩,
                              ⟨some 41, .call n_codec_source_number [((.t 40), false)] true, none⟩,
                              ⟨some 42, .fa (.t 6) 10 (some 6), none⟩,
                              ⟨none, .st (.t 42) (.t 41) 1 false (some 6), none⟩])
                            (.seq (.reg [
                                ⟨some 43, .mv (.t 5), none⟩,
                                ⟨some 44, .call n_codec_source_flag [((.t 43), false)] true, none⟩,
                                ⟨some 45, .fa (.t 6) 11 (some 6), none⟩,
                                ⟨none, .st (.t 45) (.t 44) 1 false (some 6), none⟩])
                              (.seq (.seq (.reg [
                                    ⟨some 46, .mv (.t 5), none⟩,
                                    ⟨some 47, .nck (.t 46) none, none⟩,
                                    ⟨some 48, .fa (.t 47) 2 none, none⟩,
                                    ⟨some 49, .ld (.t 48) none false none, none⟩,
                                    ⟨some 50, .bin .neq (.t 49) (.c (.int .i64 0)), none⟩])
                                  (.cond (.t 50) (.seq (.dreg [
                                        ⟨some 51, .build [(.int .i64 0), (.int .i64 0), (.int .i64 0), (.str []), (.str []), (.int .i64 0), (.int .i64 0), (.int .i64 0), (.int .i64 0), (.bool false), (.int .i64 0), (.bool false)] [], none⟩,
                                        ⟨some 52, .cp (.t 5), none⟩,
                                        ⟨some 53, .nck (.t 52) none, none⟩,
                                        ⟨some 54, .fa (.t 53) 2 none, none⟩,
                                        ⟨some 55, .ld (.t 54) none false none, none⟩,
                                        ⟨none, .st (.t 2) (.t 51) 12 false (some 2), none⟩,
                                        ⟨some 3, .mv (.c (.sl true 1 [])), none⟩,
                                        ⟨some 4, .cp (.t 55), none⟩])
                                      .ret)
                                    .skip))
                                (.pre [false, false, false, true] (.seq (.dreg [
                                    ⟨some 56, .ld (.t 6) (some 12) false (some 6), none⟩,
                                    ⟨some 57, .cp (.t 0), none⟩,
                                    ⟨some 58, .cp (.t 5), none⟩,
                                    ⟨some 59, .nck (.t 58) none, none⟩,
                                    ⟨some 60, .fa (.t 59) 1 none, none⟩,
                                    ⟨some 61, .ld (.t 60) none false none, none⟩,
                                    ⟨some 62, .call n_codec_rest [((.t 57), false), ((.t 61), false)] false, none⟩,
                                    ⟨none, .st (.t 2) (.t 56) 12 false (some 2), none⟩,
                                    ⟨some 3, .mv (.t 62), none⟩,
                                    ⟨some 4, .mv (.c (.int .i64 0)), none⟩])
                                  .ret))))))))))))))))))), [.cell 2 (some 12), .tmp 3, .tmp 4]⟩

/- billing/billingref07.Record -/
def a_billingref07_Record : AF := ⟨62, (.seq (.reg [
    ⟨some 2, .newbox [(.int .i64 0), (.int .i64 0), (.int .i64 0), (.str []), (.str []), (.int .i64 0), (.int .i64 0), (.int .i64 0), (.int .i64 0), (.bool false), (.int .i64 0), (.bool false)], none⟩,
    ⟨some 3, .mv (.c (.sl true 1 [])), none⟩,
    ⟨some 4, .mv (.c (.int .i64 0)), none⟩])
  (.pre [false, false, false, true] (.seq (.reg [
      ⟨some 7, .mv (.t 0), none⟩,
      ⟨some 8, .call n_billingref07_join [((.c (.sl false 1 [])), false), ((.t 7), false)] false, none⟩,
      ⟨none, .cm 8, none⟩,
      ⟨none, .cm 8, none⟩,
      ⟨some 9, .build [(.sl false 1 []), (.int .i64 0)] [(0, 1, (.t 8))], none⟩,
      ⟨some 10, .boxo (.t 9), none⟩,
      ⟨some 5, .mv (.t 10), none⟩])
    (.seq (.reg [
        ⟨some 6, .newbox [(.int .i64 0), (.int .i64 0), (.int .i64 0), (.str []), (.str []), (.int .i64 0), (.int .i64 0), (.int .i64 0), (.int .i64 0), (.bool false), (.int .i64 0), (.bool false)], none⟩])
      (.seq (.reg [
          ⟨some 11, .mv (.t 5), none⟩,
          ⟨some 12, .call n_billingref07_reader_number [((.t 11), false)] true, none⟩,
          ⟨some 13, .fa (.t 6) 0 (some 6), none⟩,
          ⟨none, .st (.t 13) (.t 12) 1 false (some 6), none⟩])
        (.seq (.reg [
            ⟨some 14, .mv (.t 5), none⟩,
            ⟨some 15, .call n_billingref07_reader_number [((.t 14), false)] true, none⟩,
            ⟨some 16, .fa (.t 6) 1 (some 6), none⟩,
            ⟨none, .st (.t 16) (.t 15) 1 false (some 6), none⟩])
          (.seq (.reg [
              ⟨some 17, .mv (.t 5), none⟩,
              ⟨some 18, .call n_billingref07_reader_number [((.t 17), false)] true, none⟩,
              ⟨some 19, .fa (.t 6) 2 (some 6), none⟩,
              ⟨none, .st (.t 19) (.t 18) 1 false (some 6), none⟩])
            (.seq (.reg [
                ⟨some 20, .mv (.t 5), none⟩,
                ⟨some 21, .call n_billingref07_reader_text [((.t 20), false)] true, none⟩,
                ⟨some 22, .fa (.t 6) 3 (some 6), none⟩,
                ⟨none, .st (.t 22) (.t 21) 1 false (some 6), none⟩])
              (.seq (.reg [
                  ⟨some 23, .mv (.t 5), none⟩,
                  ⟨some 24, .call n_billingref07_reader_text [((.t 23), false)] true, none⟩,
                  ⟨some 25, .fa (.t 6) 4 (some 6), none⟩,
                  ⟨none, .st (.t 25) (.t 24) 1 false (some 6), none⟩])
                (.seq (.reg [
                    ⟨some 26, .mv (.t 5), none⟩,
                    ⟨some 27, .call n_billingref07_reader_number [((.t 26), false)] true, none⟩,
                    ⟨some 28, .fa (.t 6) 5 (some 6), none⟩,
                    ⟨none, .st (.t 28) (.t 27) 1 false (some 6), none⟩])
                  (.seq (.reg [
                      ⟨some 29, .mv (.t 5), none⟩,
                      ⟨some 30, .call n_billingref07_reader_number [((.t 29), false)] true, none⟩,
                      ⟨some 31, .fa (.t 6) 6 (some 6), none⟩,
                      ⟨none, .st (.t 31) (.t 30) 1 false (some 6), none⟩])
                    (.seq (.reg [
                        ⟨some 32, .mv (.t 5), none⟩,
                        ⟨some 33, .call n_billingref07_reader_number [((.t 32), false)] true, none⟩,
                        ⟨some 34, .fa (.t 6) 7 (some 6), none⟩,
                        ⟨none, .st (.t 34) (.t 33) 1 false (some 6), none⟩])
                      (.seq (.reg [
                          ⟨some 35, .mv (.t 5), none⟩,
                          ⟨some 36, .call n_billingref07_reader_number [((.t 35), false)] true, none⟩,
                          ⟨some 37, .fa (.t 6) 8 (some 6), none⟩,
                          ⟨none, .st (.t 37) (.t 36) 1 false (some 6), none⟩])
                        (.seq (.reg [
                            ⟨some 38, .mv (.t 5), none⟩,
                            ⟨some 39, .call n_billingref07_reader_truth [((.t 38), false)] true, none⟩,
                            ⟨some 40, .fa (.t 6) 9 (some 6), none⟩,
                            ⟨none, .st (.t 40) (.t 39) 1 false (some 6), none⟩])
                          (.seq (.reg [
                              ⟨some 41, .mv (.t 5), none⟩,
                              ⟨some 42, .call n_billingref07_reader_number [((.t 41), false)] true, none⟩,
                              ⟨some 43, .fa (.t 6) 10 (some 6), none⟩,
                              ⟨none, .st (.t 43) (.t 42) 1 false (some 6), none⟩])
                            (.seq (.reg [
                                ⟨some 44, .mv (.t 5), none⟩,
                                ⟨some 45, .call n_billingref07_reader_truth [((.t 44), false)] true, none⟩,
                                ⟨some 46, .fa (.t 6) 11 (some 6), none⟩,
                                ⟨none, .st (.t 46) (.t 45) 1 false (some 6), none⟩])
                              (.seq (.seq (.reg [
                                    ⟨some 47, .mv (.t 5), none⟩,
                                    ⟨some 48, .nck (.t 47) none, none⟩,
                                    ⟨some 49, .fa (.t 48) 1 none, none⟩,
                                    ⟨some 50, .ld (.t 49) none false none, none⟩,
                                    ⟨some 51, .bin .neq (.t 50) (.c (.int .i64 0)), none⟩])
                                  (.cond (.t 51) (.seq (.dreg [
                                        ⟨some 52, .build [(.int .i64 0), (.int .i64 0), (.int .i64 0), (.str []), (.str []), (.int .i64 0), (.int .i64 0), (.int .i64 0), (.int .i64 0), (.bool false), (.int .i64 0), (.bool false)] [], none⟩,
                                        ⟨some 53, .cp (.t 5), none⟩,
                                        ⟨some 54, .nck (.t 53) none, none⟩,
                                        ⟨some 55, .fa (.t 54) 1 none, none⟩,
                                        ⟨some 56, .ld (.t 55) none false none, none⟩,
                                        ⟨none, .st (.t 2) (.t 52) 12 false (some 2), none⟩,
                                        ⟨some 3, .mv (.c (.sl true 1 [])), none⟩,
                                        ⟨some 4, .cp (.t 56), none⟩])
                                      .ret)
                                    .skip))
                                (.pre [false, false, false, true] (.seq (.dreg [
                                    ⟨some 57, .ld (.t 6) (some 12) false (some 6), none⟩,
                                    ⟨some 58, .cp (.t 5), none⟩,
                                    ⟨some 59, .nck (.t 58) none, none⟩,
                                    ⟨some 60, .fa (.t 59) 0 none, none⟩,
                                    ⟨some 61, .ld (.t 60) none false none, none⟩,
                                    ⟨none, .st (.t 2) (.t 57) 12 false (some 2), none⟩,
                                    ⟨some 3, .mv (.t 61), none⟩,
                                    ⟨some 4, .mv (.c (.int .i64 0)), none⟩])
                                  .ret))))))))))))))))))), [.cell 2 (some 12), .tmp 3, .tmp 4]⟩

/- billing/billingref07.PutRecord -/
def a_billingref07_PutRecord : AF := ⟨56, (.seq (.reg [
    ⟨some 3, .boxr (.t 1), none⟩,
    ⟨some 4, .mv (.c (.sl true 1 [])), none⟩])
  (.pre [false, false, false, false, true] (.seq (.reg [
      ⟨some 6, .mv (.t 0), none⟩,
      ⟨some 7, .fa (.t 3) 0 none, none⟩,
      ⟨some 8, .ld (.t 7) none false none, none⟩,
      ⟨some 9, .call n_billingref07_PutNumber [((.t 6), false), ((.t 8), false)] false, none⟩,
      ⟨none, .cm 9, none⟩,
      ⟨some 5, .mv (.t 9), none⟩,
      ⟨none, .cm 5, none⟩])
    (.seq (.reg [
        ⟨none, .cm 5, none⟩,
        ⟨some 10, .cp (.t 5), none⟩,
        ⟨some 11, .fa (.t 3) 1 none, none⟩,
        ⟨some 12, .ld (.t 11) none false none, none⟩,
        ⟨none, .cm 10, none⟩,
        ⟨some 13, .call n_billingref07_PutNumber [((.t 10), false), ((.t 12), false)] false, none⟩,
        ⟨none, .cm 13, none⟩,
        ⟨some 5, .mv (.t 13), none⟩,
        ⟨none, .cm 5, none⟩])
      (.seq (.reg [
          ⟨none, .cm 5, none⟩,
          ⟨some 14, .cp (.t 5), none⟩,
          ⟨some 15, .fa (.t 3) 2 none, none⟩,
          ⟨some 16, .ld (.t 15) none false none, none⟩,
          ⟨none, .cm 14, none⟩,
          ⟨some 17, .call n_billingref07_PutNumber [((.t 14), false), ((.t 16), false)] false, none⟩,
          ⟨none, .cm 17, none⟩,
          ⟨some 5, .mv (.t 17), none⟩,
          ⟨none, .cm 5, none⟩])
        (.seq (.reg [
            ⟨none, .cm 5, none⟩,
            ⟨some 18, .cp (.t 5), none⟩,
            ⟨some 19, .fa (.t 3) 3 none, none⟩,
            ⟨some 20, .ld (.t 19) none false none, none⟩,
            ⟨none, .cm 18, none⟩,
            ⟨some 21, .call n_billingref07_PutText [((.t 18), false), ((.t 20), false)] false, none⟩,
            ⟨none, .cm 21, none⟩,
            ⟨some 5, .mv (.t 21), none⟩,
            ⟨none, .cm 5, none⟩])
          (.seq (.reg [
              ⟨none, .cm 5, none⟩,
              ⟨some 22, .cp (.t 5), none⟩,
              ⟨some 23, .fa (.t 3) 4 none, none⟩,
              ⟨some 24, .ld (.t 23) none false none, none⟩,
              ⟨none, .cm 22, none⟩,
              ⟨some 25, .call n_billingref07_PutText [((.t 22), false), ((.t 24), false)] false, none⟩,
              ⟨none, .cm 25, none⟩,
              ⟨some 5, .mv (.t 25), none⟩,
              ⟨none, .cm 5, none⟩])
            (.seq (.reg [
                ⟨none, .cm 5, none⟩,
                ⟨some 26, .cp (.t 5), none⟩,
                ⟨some 27, .fa (.t 3) 5 none, none⟩,
                ⟨some 28, .ld (.t 27) none false none, none⟩,
                ⟨none, .cm 26, none⟩,
                ⟨some 29, .call n_billingref07_PutNumber [((.t 26), false), ((.t 28), false)] false, none⟩,
                ⟨none, .cm 29, none⟩,
                ⟨some 5, .mv (.t 29), none⟩,
                ⟨none, .cm 5, none⟩])
              (.seq (.reg [
                  ⟨none, .cm 5, none⟩,
                  ⟨some 30, .cp (.t 5), none⟩,
                  ⟨some 31, .fa (.t 3) 6 none, none⟩,
                  ⟨some 32, .ld (.t 31) none false none, none⟩,
                  ⟨none, .cm 30, none⟩,
                  ⟨some 33, .call n_billingref07_PutNumber [((.t 30), false), ((.t 32), false)] false, none⟩,
                  ⟨none, .cm 33, none⟩,
                  ⟨some 5, .mv (.t 33), none⟩,
                  ⟨none, .cm 5, none⟩])
                (.seq (.reg [
                    ⟨none, .cm 5, none⟩,
                    ⟨some 34, .cp (.t 5), none⟩,
                    ⟨some 35, .fa (.t 3) 7 none, none⟩,
                    ⟨some 36, .ld (.t 35) none false none, none⟩,
                    ⟨none, .cm 34, none⟩,
                    ⟨some 37, .call n_billingref07_PutNumber [((.t 34), false), ((.t 36), false)] false, none⟩,
                    ⟨none, .cm 37, none⟩,
                    ⟨some 5, .mv (.t 37), none⟩,
                    ⟨none, .cm 5, none⟩])
                  (.seq (.reg [
                      ⟨none, .cm 5, none⟩,
                      ⟨some 38, .cp (.t 5), none⟩,
                      ⟨some 39, .fa (.t 3) 8 none, none⟩,
                      ⟨some 40, .ld (.t 39) none false none, none⟩,
                      ⟨none, .cm 38, none⟩,
                      ⟨some 41, .call n_billingref07_PutNumber [((.t 38), false), ((.t 40), false)] false, none⟩,
                      ⟨none, .cm 41, none⟩,
                      ⟨some 5, .mv (.t 41), none⟩,
                      ⟨none, .cm 5, none⟩])
                    (.seq (.reg [
                        ⟨none, .cm 5, none⟩,
                        ⟨some 42, .cp (.t 5), none⟩,
                        ⟨some 43, .fa (.t 3) 9 none, none⟩,
                        ⟨some 44, .ld (.t 43) none false none, none⟩,
                        ⟨some 45, .call n_billingref07_truth [((.t 44), false)] false, none⟩,
                        ⟨none, .cm 42, none⟩,
                        ⟨some 46, .call n_billingref07_PutNumber [((.t 42), false), ((.t 45), false)] false, none⟩,
                        ⟨none, .cm 46, none⟩,
                        ⟨some 5, .mv (.t 46), none⟩,
                        ⟨none, .cm 5, none⟩])
                      (.seq (.reg [
                          ⟨none, .cm 5, none⟩,
                          ⟨some 47, .cp (.t 5), none⟩,
                          ⟨some 48, .fa (.t 3) 10 none, none⟩,
                          ⟨some 49, .ld (.t 48) none false none, none⟩,
                          ⟨none, .cm 47, none⟩,
                          ⟨some 50, .call n_billingref07_PutNumber [((.t 47), false), ((.t 49), false)] false, none⟩,
                          ⟨none, .cm 50, none⟩,
                          ⟨some 5, .mv (.t 50), none⟩,
                          ⟨none, .cm 5, none⟩])
                        (.seq (.reg [
                            ⟨none, .cm 5, none⟩,
                            ⟨some 51, .cp (.t 5), none⟩,
                            ⟨some 52, .fa (.t 3) 11 none, none⟩,
                            ⟨some 53, .ld (.t 52) none false none, none⟩,
                            ⟨some 54, .call n_billingref07_truth [((.t 53), false)] false, none⟩,
                            ⟨none, .cm 51, none⟩,
                            ⟨some 55, .call n_billingref07_PutNumber [((.t 51), false), ((.t 54), false)] false, none⟩,
                            ⟨some 4, .mv (.t 55), none⟩])
                          (.pre [false, false, false, false, false, true] .ret))))))))))))))), [.tmp 4]⟩

/- billing/codec.add -/
def codec_add_l1b : AC := (.seq (.seq (.reg [
      ⟨some 8, .mv (.t 5), none⟩,
      ⟨some 9, .bin .geq (.t 8) (.c (.int .u64 128)), none⟩])
    (.cond (.t 9) .skip
      (.exit 0)))
  (.blk 1 (.seq (.reg [
        ⟨some 10, .mv (.t 0), none⟩,
        ⟨some 11, .mv (.t 5), none⟩,
        ⟨some 12, .cvi .u8 (.t 11), none⟩,
        ⟨some 13, .bin .or (.t 12) (.c (.int .u8 128)), none⟩,
        ⟨some 14, .bsl 1 1 (.int .u8 0) [(0, (.t 13))], none⟩,
        ⟨some 15, .app 1 1 (.t 10) (.t 14) none, none⟩,
        ⟨some 0, .mv (.t 15), none⟩])
      (.reg [
        ⟨some 16, .mv (.t 5), none⟩,
        ⟨some 17, .bin .shr (.t 16) (.c (.int .u64 7)), none⟩,
        ⟨some 5, .mv (.t 17), none⟩]))))
def codec_add_l1 : AC := .pre [false, false, false, false, false, false, false, false, true, true, true, true, true, true, true, true, true, true] codec_add_l1b
@[go_sem] theorem codec_add_l1_go {M : Mach} {k : List It} {s : St} {Q : Ex → St → Prop} : Run M (.c (.loop codec_add_l1) :: k) .norm s Q ↔ Run M (.c codec_add_l1b :: .lp codec_add_l1 :: k) .norm { s with t := killM [false, false, false, false, false, false, false, false, true, true, true, true, true, true, true, true, true, true] [false, false, false, false, false, false, false, false, true, true, true, true, true, true, true, true, true, true] s.t } Q := run_loop_pre
@[go_sem] theorem codec_add_l1_lp {M : Mach} {k : List It} {s : St} {Q : Ex → St → Prop} : Run M (.lp codec_add_l1 :: k) .norm s Q ↔ Run M (.c codec_add_l1b :: .lp codec_add_l1 :: k) .norm { s with t := killM [false, false, false, false, false, false, false, false, true, true, true, true, true, true, true, true, true, true] [false, false, false, false, false, false, false, false, true, true, true, true, true, true, true, true, true, true] s.t } Q := run_loop_pre
def a_codec_add : AF := ⟨23, (.seq (.reg [
    ⟨some 4, .mv (.c (.sl true 1 [])), none⟩])
  (.pre [false, false, false, false, true] (.seq (.reg [
      ⟨some 6, .mv (.t 1), none⟩,
      ⟨some 7, .call n_codec_zigzag [((.t 6), false)] false, none⟩,
      ⟨some 5, .mv (.t 7), none⟩])
    (.seq (.blk 0 (.pre [false, true, false, false, false, false, true, true] (.loop codec_add_l1)))
      (.pre [false, true, false, false, false, false, true, true, true, true, true, true, true, true, true, true, true, true] (.seq (.reg [
          ⟨some 18, .mv (.t 0), none⟩,
          ⟨some 19, .mv (.t 5), none⟩,
          ⟨some 20, .cvi .u8 (.t 19), none⟩,
          ⟨some 21, .bsl 1 1 (.int .u8 0) [(0, (.t 20))], none⟩,
          ⟨some 22, .app 1 1 (.t 18) (.t 21) none, none⟩,
          ⟨some 4, .mv (.t 22), none⟩])
        .ret)))))), [.tmp 4]⟩

/- billing/codec.grown -/
def a_codec_grown : AF := ⟨17, (.seq (.reg [
    ⟨some 4, .mv (.c (.sl true 1 [])), none⟩])
  (.pre [false, false, false, false, true] (.seq (.reg [
      ⟨some 6, .cp (.t 0), none⟩,
      ⟨some 7, .len false (.t 6) (some 0), none⟩,
      ⟨some 8, .cp (.t 0), none⟩,
      ⟨some 9, .len false (.t 8) (some 0), none⟩,
      ⟨some 10, .mv (.t 1), none⟩,
      ⟨some 11, .bin .add (.t 9) (.t 10), none⟩,
      ⟨some 12, .mk 1 1 (.int .u8 0) (.t 7) (.t 11), none⟩,
      ⟨some 5, .mv (.t 12), none⟩])
    (.seq (.reg [
        ⟨some 13, .al 5, none⟩,
        ⟨some 14, .cp (.t 0), none⟩,
        ⟨some 15, .copy 5 (.t 13) (.t 14) (some 0), none⟩])
      (.seq (.reg [
          ⟨some 16, .mv (.t 5), none⟩,
          ⟨some 4, .mv (.t 16), none⟩])
        .ret))))), [.tmp 4]⟩

/- billing/billingref07.join -/
def a_billingref07_join : AF := ⟨12, (.seq (.reg [
    ⟨some 4, .mv (.c (.sl true 1 [])), none⟩])
  (.pre [false, false, false, false, true] (.seq (.reg [
      ⟨some 6, .bsl 1 0 (.int .u8 0) [], none⟩,
      ⟨some 7, .cp (.t 0), none⟩,
      ⟨some 8, .app 1 1 (.t 6) (.t 7) (some 0), none⟩,
      ⟨some 5, .mv (.t 8), none⟩])
    (.seq (.reg [
        ⟨some 9, .mv (.t 5), none⟩,
        ⟨some 10, .cp (.t 1), none⟩,
        ⟨some 11, .app 1 1 (.t 9) (.t 10) (some 1), none⟩,
        ⟨some 4, .mv (.t 11), none⟩])
      .ret)))), [.tmp 4]⟩

/- billing/billingref07.Bytes -/
def billingref07_Bytes_l1b : AC := (.seq (.seq (.reg [
      ⟨some 16, .mv (.t 3), none⟩,
      ⟨some 17, .bin .gtr (.t 16) (.c (.int .u64 127)), none⟩])
    (.cond (.t 17) .skip
      (.exit 0)))
  (.blk 1 (.seq (.reg [
        ⟨some 18, .mv (.t 4), none⟩,
        ⟨some 19, .mv (.t 3), none⟩,
        ⟨some 20, .bin .rem (.t 19) (.c (.int .u64 128)), none⟩,
        ⟨some 21, .bin .add (.c (.int .u64 128)) (.t 20), none⟩,
        ⟨some 22, .cvi .u8 (.t 21), none⟩,
        ⟨some 23, .bsl 1 1 (.int .u8 0) [(0, (.t 22))], none⟩,
        ⟨some 24, .app 1 1 (.t 18) (.t 23) none, none⟩,
        ⟨some 4, .mv (.t 24), none⟩])
      (.reg [
        ⟨some 25, .mv (.t 3), none⟩,
        ⟨some 26, .bin .quo (.t 25) (.c (.int .u64 128)), none⟩,
        ⟨some 3, .mv (.t 26), none⟩]))))
def billingref07_Bytes_l1 : AC := .pre [false, false, false, false, false, false, false, false, false, false, false, false, false, false, false, false, true, true, true, true, true, true, true, true, true, true, true] billingref07_Bytes_l1b
@[go_sem] theorem billingref07_Bytes_l1_go {M : Mach} {k : List It} {s : St} {Q : Ex → St → Prop} : Run M (.c (.loop billingref07_Bytes_l1) :: k) .norm s Q ↔ Run M (.c billingref07_Bytes_l1b :: .lp billingref07_Bytes_l1 :: k) .norm { s with t := killM [false, false, false, false, false, false, false, false, false, false, false, false, false, false, false, false, true, true, true, true, true, true, true, true, true, true, true] [false, false, false, false, false, false, false, false, false, false, false, false, false, false, false, false, true, true, true, true, true, true, true, true, true, true, true] s.t } Q := run_loop_pre
@[go_sem] theorem billingref07_Bytes_l1_lp {M : Mach} {k : List It} {s : St} {Q : Ex → St → Prop} : Run M (.lp billingref07_Bytes_l1 :: k) .norm s Q ↔ Run M (.c billingref07_Bytes_l1b :: .lp billingref07_Bytes_l1 :: k) .norm { s with t := killM [false, false, false, false, false, false, false, false, false, false, false, false, false, false, false, false, true, true, true, true, true, true, true, true, true, true, true] [false, false, false, false, false, false, false, false, false, false, false, false, false, false, false, false, true, true, true, true, true, true, true, true, true, true, true] s.t } Q := run_loop_pre
def a_billingref07_Bytes : AF := ⟨32, (.seq (.reg [
    ⟨some 2, .mv (.c (.sl true 1 [])), none⟩])
  (.pre [false, false, true] (.seq (.reg [
      ⟨some 5, .mv (.t 0), none⟩,
      ⟨some 6, .cvi .u64 (.t 5), none⟩,
      ⟨some 7, .bin .mul (.c (.int .u64 2)) (.t 6), none⟩,
      ⟨some 3, .mv (.t 7), none⟩])
    (.seq (.seq (.reg [
          ⟨some 8, .mv (.t 0), none⟩,
          ⟨some 9, .bin .lss (.t 8) (.c (.int .i64 0)), none⟩])
        (.cond (.t 9) (.reg [
            ⟨some 10, .mv (.t 0), none⟩,
            ⟨some 11, .bin .add (.t 10) (.c (.int .i64 1)), none⟩,
            ⟨some 12, .un .neg (.t 11), none⟩,
            ⟨some 13, .cvi .u64 (.t 12), none⟩,
            ⟨some 14, .bin .mul (.c (.int .u64 2)) (.t 13), none⟩,
            ⟨some 15, .bin .add (.t 14) (.c (.int .u64 1)), none⟩,
            ⟨some 3, .mv (.t 15), none⟩])
          .skip))
      (.seq (.reg [
          ⟨some 4, .mv (.c (.sl true 1 [])), none⟩])
        (.seq (.blk 0 (.pre [true, false, false, false, false, true, true, true, true, true, true, true, true, true, true, true] (.loop billingref07_Bytes_l1)))
          (.pre [true, false, false, false, false, true, true, true, true, true, true, true, true, true, true, true, true, true, true, true, true, true, true, true, true, true, true] (.seq (.reg [
              ⟨some 27, .mv (.t 4), none⟩,
              ⟨some 28, .mv (.t 3), none⟩,
              ⟨some 29, .cvi .u8 (.t 28), none⟩,
              ⟨some 30, .bsl 1 1 (.int .u8 0) [(0, (.t 29))], none⟩,
              ⟨some 31, .app 1 1 (.t 27) (.t 30) none, none⟩,
              ⟨some 2, .mv (.t 31), none⟩])
            (.pre [false, false, false, false, true] .ret))))))))), [.tmp 2]⟩

/- billing/codec.truth -/
def a_codec_truth : AF := ⟨4, (.seq (.reg [
    ⟨some 2, .mv (.c (.int .i64 0)), none⟩])
  (.seq (.seq (.reg [
        ⟨some 3, .mv (.t 0), none⟩])
      (.cond (.t 3) (.seq (.reg [
            ⟨some 2, .mv (.c (.int .i64 1)), none⟩])
          .ret)
        .skip))
    (.seq (.reg [
        ⟨some 2, .mv (.c (.int .i64 0)), none⟩])
      .ret))), [.tmp 2]⟩

/- billing/codec.scan -/
def codec_scan_l1b : AC := (.seq (.seq (.reg [
      ⟨some 8, .mv (.t 6), none⟩,
      ⟨some 9, .cp (.t 0), none⟩,
      ⟨some 10, .len false (.t 9) (some 0), none⟩,
      ⟨some 11, .bin .lss (.t 8) (.t 10), none⟩])
    (.cond (.t 11) .skip
      (.exit 0)))
  (.seq (.blk 1 (.seq (.reg [
          ⟨some 14, .cp (.t 0), none⟩,
          ⟨some 15, .mv (.t 6), none⟩,
          ⟨some 16, .ia (.t 14) (.t 15) 1 none (some 0), none⟩,
          ⟨some 17, .ld (.t 16) none false none, none⟩,
          ⟨some 7, .mv (.t 17), none⟩])
        (.seq (.seq (.reg [
              ⟨some 18, .mv (.t 6), none⟩,
              ⟨some 19, .bin .eql (.t 18) (.c (.int .i64 9)), none⟩,
              ⟨some 20, .mv (.t 19), none⟩,
              ⟨some 21, .mv (.t 7), some (20, true)⟩,
              ⟨some 22, .bin .neq (.t 21) (.c (.int .u8 1)), some (20, true)⟩,
              ⟨some 23, .pick (.t 20) (.t 22) (.c (.bool false)), none⟩,
              ⟨some 24, .mv (.t 23), none⟩,
              ⟨some 25, .mv (.t 6), some (24, false)⟩,
              ⟨some 26, .bin .gtr (.t 25) (.c (.int .i64 0)), some (24, false)⟩,
              ⟨some 27, .mv (.t 26), some (24, false)⟩,
              ⟨some 28, .mv (.t 7), some (27, true)⟩,
              ⟨some 29, .bin .eql (.t 28) (.c (.int .u8 0)), some (27, true)⟩,
              ⟨some 30, .pick (.t 27) (.t 29) (.c (.bool false)), some (24, false)⟩,
              ⟨some 31, .pick (.t 24) (.c (.bool true)) (.t 30), none⟩])
            (.cond (.t 31) (.seq (.reg [
                  ⟨some 2, .mv (.c (.int .i64 0)), none⟩,
                  ⟨some 3, .mv (.c (.int .i64 0)), none⟩,
                  ⟨some 4, .mv (.c (.int .i64 1)), none⟩])
                .ret)
              .skip))
          (.seq (.reg [
              ⟨some 32, .mv (.t 5), none⟩,
              ⟨some 33, .mv (.t 7), none⟩,
              ⟨some 34, .bin .and (.t 33) (.c (.int .u8 127)), none⟩,
              ⟨some 35, .cvi .u64 (.t 34), none⟩,
              ⟨some 36, .mv (.t 6), none⟩,
              ⟨some 37, .bin .mul (.c (.int .i64 7)) (.t 36), none⟩,
              ⟨some 38, .bin .shl (.t 35) (.t 37), none⟩,
              ⟨some 39, .bin .or (.t 32) (.t 38), none⟩,
              ⟨some 5, .mv (.t 39), none⟩])
            (.seq (.reg [
                ⟨some 40, .mv (.t 7), none⟩,
                ⟨some 41, .bin .lss (.t 40) (.c (.int .u8 128)), none⟩])
              (.cond (.t 41) (.seq (.reg [
                    ⟨some 42, .mv (.t 5), none⟩,
                    ⟨some 43, .call n_codec_back [((.t 42), false)] false, none⟩,
                    ⟨some 44, .mv (.t 6), none⟩,
                    ⟨some 45, .bin .add (.t 44) (.c (.int .i64 1)), none⟩,
                    ⟨some 2, .mv (.t 43), none⟩,
                    ⟨some 3, .mv (.t 45), none⟩,
                    ⟨some 4, .mv (.c (.int .i64 0)), none⟩])
                  .ret)
                .skip))))))
    (.reg [
      ⟨some 12, .mv (.t 6), none⟩,
      ⟨some 13, .bin .add (.t 12) (.c (.int .i64 1)), none⟩,
      ⟨some 6, .mv (.t 13), none⟩])))
def codec_scan_l1 : AC := .pre [false, false, true, true, true, false, false, true, true, true, true, true, true, true, true, true, true, true, true, true, true, true, true, true, true, true, true, true, true, true, true, true, true, true, true, true, true, true, true, true, true, true, true, true, true, true] codec_scan_l1b
@[go_sem] theorem codec_scan_l1_go {M : Mach} {k : List It} {s : St} {Q : Ex → St → Prop} : Run M (.c (.loop codec_scan_l1) :: k) .norm s Q ↔ Run M (.c codec_scan_l1b :: .lp codec_scan_l1 :: k) .norm { s with t := killM [false, false, true, true, true, false, false, true, true, true, true, true, true, true, true, true, true, true, true, true, true, true, true, true, true, true, true, true, true, true, true, true, true, true, true, true, true, true, true, true, true, true, true, true, true, true] [false, false, true, true, true, false, false, true, true, true, true, true, true, true, true, true, true, true, true, true, true, true, true, true, true, true, true, true, true, true, true, true, true, true, true, true, true, true, true, true, true, true, true, true, true, true] s.t } Q := run_loop_pre
@[go_sem] theorem codec_scan_l1_lp {M : Mach} {k : List It} {s : St} {Q : Ex → St → Prop} : Run M (.lp codec_scan_l1 :: k) .norm s Q ↔ Run M (.c codec_scan_l1b :: .lp codec_scan_l1 :: k) .norm { s with t := killM [false, false, true, true, true, false, false, true, true, true, true, true, true, true, true, true, true, true, true, true, true, true, true, true, true, true, true, true, true, true, true, true, true, true, true, true, true, true, true, true, true, true, true, true, true, true] [false, false, true, true, true, false, false, true, true, true, true, true, true, true, true, true, true, true, true, true, true, true, true, true, true, true, true, true, true, true, true, true, true, true, true, true, true, true, true, true, true, true, true, true, true, true] s.t } Q := run_loop_pre
def a_codec_scan : AF := ⟨46, (.seq (.reg [
    ⟨some 2, .mv (.c (.int .i64 0)), none⟩,
    ⟨some 3, .mv (.c (.int .i64 0)), none⟩,
    ⟨some 4, .mv (.c (.int .i64 0)), none⟩])
  (.seq (.reg [
      ⟨some 5, .mv (.c (.int .u64 0)), none⟩])
    (.seq (.seq (.reg [
          ⟨some 6, .mv (.c (.int .i64 0)), none⟩])
        (.blk 0 (.loop codec_scan_l1)))
      (.pre [true, false, true, true, true, true, true, true, true, true, true, true, true, true, true, true, true, true, true, true, true, true, true, true, true, true, true, true, true, true, true, true, true, true, true, true, true, true, true, true, true, true, true, true, true, true] (.seq (.reg [
          ⟨some 2, .mv (.c (.int .i64 0)), none⟩,
          ⟨some 3, .mv (.c (.int .i64 0)), none⟩,
          ⟨some 4, .mv (.c (.int .i64 2)), none⟩])
        .ret))))), [.tmp 2, .tmp 3, .tmp 4]⟩

/- billing/codec.rest -/
def a_codec_rest : AF := ⟨21, (.seq (.reg [
    ⟨some 4, .mv (.c (.sl true 1 [])), none⟩])
  (.pre [false, false, false, false, true] (.seq (.reg [
      ⟨some 6, .cp (.t 0), none⟩,
      ⟨some 7, .len false (.t 6) (some 0), none⟩,
      ⟨some 8, .mv (.t 1), none⟩,
      ⟨some 9, .bin .sub (.t 7) (.t 8), none⟩,
      ⟨some 10, .mk 1 1 (.int .u8 0) (.t 9) (.t 9), none⟩,
      ⟨some 5, .mv (.t 10), none⟩])
    (.seq (.reg [
        ⟨some 11, .al 5, none⟩,
        ⟨some 12, .mv (.t 0), none⟩,
        ⟨some 13, .mv (.t 1), none⟩,
        ⟨some 14, .cp (.t 0), none⟩,
        ⟨some 15, .len false (.t 14) (some 0), none⟩,
        ⟨some 16, .cp (.t 0), none⟩,
        ⟨some 17, .len false (.t 16) (some 0), none⟩,
        ⟨some 18, .slc (some 1) (.t 12) (some (.t 13)) (some (.t 15)) (some (.t 17)), none⟩,
        ⟨some 19, .copy 5 (.t 11) (.t 18) none, none⟩])
      (.seq (.reg [
          ⟨some 20, .mv (.t 5), none⟩,
          ⟨some 4, .mv (.t 20), none⟩])
        .ret))))), [.tmp 4]⟩

/- billing/codec.length -/
def a_codec_length : AF := ⟨26, (.seq (.reg [
    ⟨some 2, .mv (.c (.int .i64 0)), none⟩,
    ⟨some 3, .mv (.c (.int .i64 0)), none⟩,
    ⟨some 4, .mv (.c (.int .i64 0)), none⟩])
  (.seq (.reg [
      ⟨some 9, .mv (.t 0), none⟩,
      ⟨some 10, .call n_codec_scan [((.t 9), false)] false, none⟩,
      ⟨some 8, .mv (.t 10), none⟩,
      ⟨some 11, .ext 8 0, none⟩,
      ⟨some 12, .ext 8 1, none⟩,
      ⟨some 13, .ext 8 2, none⟩,
      ⟨some 5, .mv (.t 11), none⟩,
      ⟨some 6, .mv (.t 12), none⟩,
      ⟨some 7, .mv (.t 13), none⟩])
    (.seq (.blk 0 (.seq (.reg [
            ⟨some 15, .mv (.t 7), none⟩,
            ⟨some 16, .bin .neq (.t 15) (.c (.int .i64 0)), none⟩,
            ⟨some 14, .mv (.t 16), none⟩])
          (.cond (.t 14) (.seq (.reg [
                ⟨some 17, .mv (.t 7), none⟩,
                ⟨some 2, .mv (.c (.int .i64 0)), none⟩,
                ⟨some 3, .mv (.c (.int .i64 0)), none⟩,
                ⟨some 4, .mv (.t 17), none⟩])
              .ret)
            (.seq (.reg [
                ⟨some 19, .mv (.t 5), none⟩,
                ⟨some 20, .bin .lss (.t 19) (.c (.int .i64 0)), none⟩,
                ⟨some 18, .mv (.t 20), none⟩])
              (.cond (.t 18) (.seq (.reg [
                    ⟨some 2, .mv (.c (.int .i64 0)), none⟩,
                    ⟨some 3, .mv (.c (.int .i64 0)), none⟩,
                    ⟨some 4, .mv (.c (.int .i64 1)), none⟩])
                  .ret)
                (.seq (.reg [
                    ⟨some 22, .mv (.t 5), none⟩,
                    ⟨some 23, .bin .gtr (.t 22) (.c (.int .i64 1048576)), none⟩,
                    ⟨some 21, .mv (.t 23), none⟩])
                  (.cond (.t 21) (.seq (.reg [
                        ⟨some 2, .mv (.c (.int .i64 0)), none⟩,
                        ⟨some 3, .mv (.c (.int .i64 0)), none⟩,
                        ⟨some 4, .mv (.c (.int .i64 5)), none⟩])
                      .ret)
                    .skip)))))))
      (.seq (.reg [
          ⟨some 24, .mv (.t 5), none⟩,
          ⟨some 25, .mv (.t 6), none⟩,
          ⟨some 2, .mv (.t 24), none⟩,
          ⟨some 3, .mv (.t 25), none⟩,
          ⟨some 4, .mv (.c (.int .i64 0)), none⟩])
        .ret)))), [.tmp 2, .tmp 3, .tmp 4]⟩

/- billing/billingref07.length -/
def a_billingref07_length : AF := ⟨26, (.seq (.reg [
    ⟨some 2, .mv (.c (.int .i64 0)), none⟩,
    ⟨some 3, .mv (.c (.sl true 1 [])), none⟩,
    ⟨some 4, .mv (.c (.int .i64 0)), none⟩])
  (.pre [false, false, false, true] (.seq (.reg [
      ⟨some 9, .mv (.t 0), none⟩,
      ⟨some 10, .call n_billingref07_Number [((.t 9), false)] false, none⟩,
      ⟨some 8, .mv (.t 10), none⟩,
      ⟨some 11, .ext 8 0, none⟩,
      ⟨some 12, .ext 8 1, none⟩,
      ⟨some 13, .ext 8 2, none⟩,
      ⟨some 5, .mv (.t 11), none⟩,
      ⟨some 6, .mv (.t 12), none⟩,
      ⟨some 7, .mv (.t 13), none⟩])
    (.seq (.blk 0 (.seq (.reg [
            ⟨some 15, .mv (.t 7), none⟩,
            ⟨some 16, .bin .neq (.t 15) (.c (.int .i64 0)), none⟩,
            ⟨some 14, .mv (.t 16), none⟩])
          (.cond (.t 14) (.seq (.reg [
                ⟨some 17, .mv (.t 7), none⟩,
                ⟨some 2, .mv (.c (.int .i64 0)), none⟩,
                ⟨some 3, .mv (.c (.sl true 1 [])), none⟩,
                ⟨some 4, .mv (.t 17), none⟩])
              .ret)
            (.seq (.reg [
                ⟨some 19, .mv (.t 5), none⟩,
                ⟨some 20, .bin .lss (.t 19) (.c (.int .i64 0)), none⟩,
                ⟨some 18, .mv (.t 20), none⟩])
              (.cond (.t 18) (.seq (.reg [
                    ⟨some 2, .mv (.c (.int .i64 0)), none⟩,
                    ⟨some 3, .mv (.c (.sl true 1 [])), none⟩,
                    ⟨some 4, .mv (.c (.int .i64 1)), none⟩])
                  .ret)
                (.seq (.reg [
                    ⟨some 22, .mv (.t 5), none⟩,
                    ⟨some 23, .bin .gtr (.t 22) (.c (.int .i64 1048576)), none⟩,
                    ⟨some 21, .mv (.t 23), none⟩])
                  (.cond (.t 21) (.seq (.reg [
                        ⟨some 2, .mv (.c (.int .i64 0)), none⟩,
                        ⟨some 3, .mv (.c (.sl true 1 [])), none⟩,
                        ⟨some 4, .mv (.c (.int .i64 5)), none⟩])
                      .ret)
                    .skip)))))))
      (.pre [false, false, false, true] (.seq (.reg [
          ⟨some 24, .mv (.t 5), none⟩,
          ⟨some 25, .mv (.t 6), none⟩,
          ⟨some 2, .mv (.t 24), none⟩,
          ⟨some 3, .mv (.t 25), none⟩,
          ⟨some 4, .mv (.c (.int .i64 0)), none⟩])
        .ret)))))), [.tmp 2, .tmp 3, .tmp 4]⟩

/- billing/frame.locate -/
def a_frame_locate : AF := ⟨93, (.seq (.reg [
    ⟨some 2, .mv (.c (.int .i64 0)), none⟩,
    ⟨some 3, .mv (.c (.int .i64 0)), none⟩,
    ⟨some 4, .mv (.c (.int .i64 0)), none⟩])
  (.seq (.reg [
      ⟨some 11, .mv (.t 0), none⟩,
      ⟨some 12, .cp (.t 0), none⟩,
      ⟨some 13, .len false (.t 12) (some 0), none⟩,
      ⟨some 14, .min [(.t 13), (.c (.int .i64 10))], none⟩,
      ⟨some 15, .cp (.t 0), none⟩,
      ⟨some 16, .len false (.t 15) (some 0), none⟩,
      ⟨some 17, .min [(.t 16), (.c (.int .i64 10))], none⟩,
      ⟨some 18, .slc (some 1) (.t 11) none (some (.t 14)) (some (.t 17)), none⟩,
      ⟨some 5, .mv (.t 18), none⟩])
    (.seq (.reg [
        ⟨some 20, .mv (.t 5), none⟩,
        ⟨some 21, .call n_codec_Number [((.t 20), false)] false, none⟩,
        ⟨some 19, .mv (.t 21), none⟩,
        ⟨some 22, .ext 19 0, none⟩,
        ⟨some 23, .ext 19 1, none⟩,
        ⟨none, .cm 23, none⟩,
        ⟨some 24, .ext 19 2, none⟩,
        ⟨some 6, .mv (.t 22), none⟩,
        ⟨some 7, .mv (.t 23), none⟩,
        ⟨none, .cm 7, none⟩,
        ⟨some 8, .mv (.t 24), none⟩])
      (.seq (.blk 0 (.seq (.reg [
              ⟨some 26, .mv (.t 8), none⟩,
              ⟨some 27, .bin .neq (.t 26) (.c (.int .i64 0)), none⟩,
              ⟨some 25, .mv (.t 27), none⟩])
            (.cond (.t 25) (.seq (.reg [
                  ⟨some 28, .mv (.t 8), none⟩,
                  ⟨some 2, .mv (.c (.int .i64 0)), none⟩,
                  ⟨some 3, .mv (.c (.int .i64 0)), none⟩,
                  ⟨some 4, .mv (.t 28), none⟩])
                .ret)
              (.seq (.reg [
                  ⟨some 30, .mv (.t 6), none⟩,
                  ⟨some 31, .bin .lss (.t 30) (.c (.int .i64 0)), none⟩,
                  ⟨some 29, .mv (.t 31), none⟩])
                (.cond (.t 29) (.seq (.reg [
                      ⟨some 2, .mv (.c (.int .i64 0)), none⟩,
                      ⟨some 3, .mv (.c (.int .i64 0)), none⟩,
                      ⟨some 4, .mv (.c (.int .i64 1)), none⟩])
                    .ret)
                  (.seq (.reg [
                      ⟨some 33, .mv (.t 6), none⟩,
                      ⟨some 34, .bin .gtr (.t 33) (.c (.int .i64 1048576)), none⟩,
                      ⟨some 32, .mv (.t 34), none⟩])
                    (.cond (.t 32) (.seq (.reg [
                          ⟨some 2, .mv (.c (.int .i64 0)), none⟩,
                          ⟨some 3, .mv (.c (.int .i64 0)), none⟩,
                          ⟨some 4, .mv (.c (.int .i64 5)), none⟩])
                        .ret)
                      .skip)))))))
        (.seq (.reg [
            ⟨some 35, .cp (.t 5), none⟩,
            ⟨some 36, .len false (.t 35) (some 5), none⟩,
            ⟨some 37, .al 7, none⟩,
            ⟨some 38, .len false (.t 37) (some 7), none⟩,
            ⟨some 39, .bin .sub (.t 36) (.t 38), none⟩,
            ⟨some 9, .mv (.t 39), none⟩])
          (.seq (.seq (.reg [
                ⟨some 40, .cp (.t 0), none⟩,
                ⟨some 41, .len false (.t 40) (some 0), none⟩,
                ⟨some 42, .mv (.t 9), none⟩,
                ⟨some 43, .bin .sub (.t 41) (.t 42), none⟩,
                ⟨some 44, .mv (.t 6), none⟩,
                ⟨some 45, .bin .add (.c (.int .i64 4)) (.t 44), none⟩,
                ⟨some 46, .bin .lss (.t 43) (.t 45), none⟩])
              (.cond (.t 46) (.seq (.reg [
                    ⟨some 2, .mv (.c (.int .i64 0)), none⟩,
                    ⟨some 3, .mv (.c (.int .i64 0)), none⟩,
                    ⟨some 4, .mv (.c (.int .i64 2)), none⟩])
                  .ret)
                .skip))
            (.seq (.dreg [
                ⟨some 47, .cp (.t 0), none⟩,
                ⟨some 48, .cp (.t 9), none⟩,
                ⟨some 49, .ia (.t 47) (.t 48) 1 none (some 0), none⟩,
                ⟨some 50, .ld (.t 49) none false none, none⟩,
                ⟨some 51, .cvi .u32 (.t 50), none⟩,
                ⟨some 52, .bin .shl (.t 51) (.c (.int .u64 24)), none⟩,
                ⟨some 53, .cp (.t 0), none⟩,
                ⟨some 54, .cp (.t 9), none⟩,
                ⟨some 55, .bin .add (.t 54) (.c (.int .i64 1)), none⟩,
                ⟨some 56, .ia (.t 53) (.t 55) 1 none (some 0), none⟩,
                ⟨some 57, .ld (.t 56) none false none, none⟩,
                ⟨some 58, .cvi .u32 (.t 57), none⟩,
                ⟨some 59, .bin .shl (.t 58) (.c (.int .u64 16)), none⟩,
                ⟨some 60, .bin .or (.t 52) (.t 59), none⟩,
                ⟨some 61, .cp (.t 0), none⟩,
                ⟨some 62, .cp (.t 9), none⟩,
                ⟨some 63, .bin .add (.t 62) (.c (.int .i64 2)), none⟩,
                ⟨some 64, .ia (.t 61) (.t 63) 1 none (some 0), none⟩,
                ⟨some 65, .ld (.t 64) none false none, none⟩,
                ⟨some 66, .cvi .u32 (.t 65), none⟩,
                ⟨some 67, .bin .shl (.t 66) (.c (.int .u64 8)), none⟩,
                ⟨some 68, .bin .or (.t 60) (.t 67), none⟩,
                ⟨some 69, .cp (.t 0), none⟩,
                ⟨some 70, .cp (.t 9), none⟩,
                ⟨some 71, .bin .add (.t 70) (.c (.int .i64 3)), none⟩,
                ⟨some 72, .ia (.t 69) (.t 71) 1 none (some 0), none⟩,
                ⟨some 73, .ld (.t 72) none false none, none⟩,
                ⟨some 74, .cvi .u32 (.t 73), none⟩,
                ⟨some 75, .bin .or (.t 68) (.t 74), none⟩,
                ⟨some 10, .cp (.t 75), none⟩])
              (.seq (.seq (.reg [
                    ⟨some 76, .mv (.t 0), none⟩,
                    ⟨some 77, .mv (.t 9), none⟩,
                    ⟨some 78, .bin .add (.t 77) (.c (.int .i64 4)), none⟩,
                    ⟨some 79, .mv (.t 9), none⟩,
                    ⟨some 80, .bin .add (.t 79) (.c (.int .i64 4)), none⟩,
                    ⟨some 81, .mv (.t 6), none⟩,
                    ⟨some 82, .bin .add (.t 80) (.t 81), none⟩,
                    ⟨some 83, .slc (some 1) (.t 76) (some (.t 78)) (some (.t 82)) none, none⟩,
                    ⟨some 84, .call n_frame_Sum [((.t 83), false)] false, none⟩,
                    ⟨some 85, .mv (.t 10), none⟩,
                    ⟨some 86, .bin .neq (.t 84) (.t 85), none⟩])
                  (.cond (.t 86) (.seq (.reg [
                        ⟨some 2, .mv (.c (.int .i64 0)), none⟩,
                        ⟨some 3, .mv (.c (.int .i64 0)), none⟩,
                        ⟨some 4, .mv (.c (.int .i64 4)), none⟩])
                      .ret)
                    .skip))
                (.seq (.reg [
                    ⟨some 87, .mv (.t 9), none⟩,
                    ⟨some 88, .bin .add (.t 87) (.c (.int .i64 4)), none⟩,
                    ⟨some 89, .mv (.t 9), none⟩,
                    ⟨some 90, .bin .add (.t 89) (.c (.int .i64 4)), none⟩,
                    ⟨some 91, .mv (.t 6), none⟩,
                    ⟨some 92, .bin .add (.t 90) (.t 91), none⟩,
                    ⟨some 2, .mv (.t 88), none⟩,
                    ⟨some 3, .mv (.t 92), none⟩,
                    ⟨some 4, .mv (.c (.int .i64 0)), none⟩])
                  .ret))))))))), [.tmp 2, .tmp 3, .tmp 4]⟩

/- billing/frame.copied -/
def a_frame_copied : AF := ⟨20, (.seq (.reg [
    ⟨some 6, .mv (.c (.sl true 1 [])), none⟩])
  (.pre [false, false, false, false, false, false, true] (.seq (.reg [
      ⟨some 8, .mv (.t 2), none⟩,
      ⟨some 9, .mv (.t 1), none⟩,
      ⟨some 10, .bin .sub (.t 8) (.t 9), none⟩,
      ⟨some 11, .mk 1 1 (.int .u8 0) (.t 10) (.t 10), none⟩,
      ⟨some 7, .mv (.t 11), none⟩])
    (.seq (.reg [
        ⟨some 12, .al 7, none⟩,
        ⟨some 13, .mv (.t 0), none⟩,
        ⟨some 14, .mv (.t 1), none⟩,
        ⟨some 15, .mv (.t 2), none⟩,
        ⟨some 16, .mv (.t 2), none⟩,
        ⟨some 17, .slc (some 1) (.t 13) (some (.t 14)) (some (.t 15)) (some (.t 16)), none⟩,
        ⟨some 18, .copy 7 (.t 12) (.t 17) none, none⟩])
      (.seq (.reg [
          ⟨some 19, .mv (.t 7), none⟩,
          ⟨some 6, .mv (.t 19), none⟩])
        .ret))))), [.tmp 6]⟩

/- billing/frame.wrap -/
def a_frame_wrap : AF := ⟨30, (.seq (.reg [
    ⟨some 4, .mv (.c (.sl true 1 [])), none⟩])
  (.pre [false, false, false, false, true] (.seq (.reg [
      ⟨some 6, .mv (.t 1), none⟩,
      ⟨some 7, .call n_frame_Sum [((.t 6), false)] false, none⟩,
      ⟨some 5, .mv (.t 7), none⟩])
    (.seq (.reg [
        ⟨some 8, .mv (.t 0), none⟩,
        ⟨some 9, .cp (.t 1), none⟩,
        ⟨some 10, .len false (.t 9) (some 1), none⟩,
        ⟨some 11, .call n_codec_PutNumber [((.c (.sl false 1 [])), false), ((.t 10), false)] false, none⟩,
        ⟨none, .cm 11, none⟩,
        ⟨some 12, .app 1 1 (.t 8) (.t 11) none, none⟩,
        ⟨some 0, .mv (.t 12), none⟩])
      (.seq (.reg [
          ⟨some 13, .mv (.t 0), none⟩,
          ⟨some 14, .mv (.t 5), none⟩,
          ⟨some 15, .bin .shr (.t 14) (.c (.int .u64 24)), none⟩,
          ⟨some 16, .cvi .u8 (.t 15), none⟩,
          ⟨some 17, .mv (.t 5), none⟩,
          ⟨some 18, .bin .shr (.t 17) (.c (.int .u64 16)), none⟩,
          ⟨some 19, .cvi .u8 (.t 18), none⟩,
          ⟨some 20, .mv (.t 5), none⟩,
          ⟨some 21, .bin .shr (.t 20) (.c (.int .u64 8)), none⟩,
          ⟨some 22, .cvi .u8 (.t 21), none⟩,
          ⟨some 23, .mv (.t 5), none⟩,
          ⟨some 24, .cvi .u8 (.t 23), none⟩,
          ⟨some 25, .bsl 1 4 (.int .u8 0) [(0, (.t 16)), (1, (.t 19)), (2, (.t 22)), (3, (.t 24))], none⟩,
          ⟨some 26, .app 1 1 (.t 13) (.t 25) none, none⟩,
          ⟨some 0, .mv (.t 26), none⟩])
        (.seq (.reg [
            ⟨some 27, .mv (.t 0), none⟩,
            ⟨some 28, .cp (.t 1), none⟩,
            ⟨some 29, .app 1 1 (.t 27) (.t 28) (some 1), none⟩,
            ⟨some 4, .mv (.t 29), none⟩])
          (.pre [true] .ret))))))), [.tmp 4]⟩

/- (*billing/codec.source).number -/
def a_codec_source_number : AF := ⟨38, (.seq (.reg [
    ⟨some 2, .mv (.c (.int .i64 0)), none⟩])
  (.seq (.seq (.reg [
        ⟨some 6, .mv (.t 0), none⟩,
        ⟨some 7, .nck (.t 6) none, none⟩,
        ⟨some 8, .fa (.t 7) 2 none, none⟩,
        ⟨some 9, .ld (.t 8) none false none, none⟩,
        ⟨some 10, .bin .neq (.t 9) (.c (.int .i64 0)), none⟩])
      (.cond (.t 10) (.seq (.reg [
            ⟨some 2, .mv (.c (.int .i64 0)), none⟩])
          .ret)
        .skip))
    (.seq (.dreg [
        ⟨some 12, .cp (.t 0), none⟩,
        ⟨some 13, .nck (.t 12) none, none⟩,
        ⟨some 14, .fa (.t 13) 0 none, none⟩,
        ⟨some 15, .ld (.t 14) none false none, none⟩,
        ⟨some 16, .cp (.t 0), none⟩,
        ⟨some 17, .nck (.t 16) none, none⟩,
        ⟨some 18, .fa (.t 17) 1 none, none⟩,
        ⟨some 19, .ld (.t 18) none false none, none⟩,
        ⟨some 20, .slc (some 1) (.t 15) (some (.t 19)) none none, none⟩,
        ⟨some 21, .call n_codec_scan [((.t 20), false)] false, none⟩,
        ⟨some 11, .mv (.t 21), none⟩,
        ⟨some 22, .ext 11 0, none⟩,
        ⟨some 23, .ext 11 1, none⟩,
        ⟨some 24, .ext 11 2, none⟩,
        ⟨some 3, .cp (.t 22), none⟩,
        ⟨some 4, .cp (.t 23), none⟩,
        ⟨some 5, .cp (.t 24), none⟩])
      (.seq (.reg [
          ⟨some 25, .mv (.t 0), none⟩,
          ⟨some 26, .nck (.t 25) none, none⟩,
          ⟨some 27, .fa (.t 26) 1 none, none⟩,
          ⟨some 28, .ld (.t 27) none false none, none⟩,
          ⟨some 29, .mv (.t 4), none⟩,
          ⟨some 30, .bin .add (.t 28) (.t 29), none⟩,
          ⟨some 31, .nck (.t 25) none, none⟩,
          ⟨some 32, .fa (.t 31) 1 none, none⟩,
          ⟨none, .st (.t 32) (.t 30) 1 false none, none⟩])
        (.seq (.reg [
            ⟨some 33, .mv (.t 0), none⟩,
            ⟨some 34, .mv (.t 5), none⟩,
            ⟨some 35, .nck (.t 33) none, none⟩,
            ⟨some 36, .fa (.t 35) 2 none, none⟩,
            ⟨none, .st (.t 36) (.t 34) 1 false none, none⟩])
          (.seq (.reg [
              ⟨some 37, .mv (.t 3), none⟩,
              ⟨some 2, .mv (.t 37), none⟩])
            .ret)))))), [.tmp 2]⟩

/- (*billing/codec.source).text -/
def a_codec_source_text : AF := ⟨73, (.seq (.reg [
    ⟨some 2, .mv (.c (.str [])), none⟩])
  (.seq (.seq (.reg [
        ⟨some 7, .mv (.t 0), none⟩,
        ⟨some 8, .nck (.t 7) none, none⟩,
        ⟨some 9, .fa (.t 8) 2 none, none⟩,
        ⟨some 10, .ld (.t 9) none false none, none⟩,
        ⟨some 11, .bin .neq (.t 10) (.c (.int .i64 0)), none⟩])
      (.cond (.t 11) (.seq (.reg [
            ⟨some 2, .mv (.c (.str [])), none⟩])
          .ret)
        .skip))
    (.seq (.dreg [
        ⟨some 13, .cp (.t 0), none⟩,
        ⟨some 14, .nck (.t 13) none, none⟩,
        ⟨some 15, .fa (.t 14) 0 none, none⟩,
        ⟨some 16, .ld (.t 15) none false none, none⟩,
        ⟨some 17, .cp (.t 0), none⟩,
        ⟨some 18, .nck (.t 17) none, none⟩,
        ⟨some 19, .fa (.t 18) 1 none, none⟩,
        ⟨some 20, .ld (.t 19) none false none, none⟩,
        ⟨some 21, .slc (some 1) (.t 16) (some (.t 20)) none none, none⟩,
        ⟨some 22, .call n_codec_length [((.t 21), false)] false, none⟩,
        ⟨some 12, .mv (.t 22), none⟩,
        ⟨some 23, .ext 12 0, none⟩,
        ⟨some 24, .ext 12 1, none⟩,
        ⟨some 25, .ext 12 2, none⟩,
        ⟨some 3, .cp (.t 23), none⟩,
        ⟨some 4, .cp (.t 24), none⟩,
        ⟨some 5, .cp (.t 25), none⟩])
      (.seq (.seq (.dreg [
            ⟨some 26, .cp (.t 5), none⟩,
            ⟨some 27, .bin .eql (.t 26) (.c (.int .i64 0)), none⟩,
            ⟨some 28, .cp (.t 27), none⟩,
            ⟨some 29, .cp (.t 0), some (28, true)⟩,
            ⟨some 30, .nck (.t 29) none, some (28, true)⟩,
            ⟨some 31, .fa (.t 30) 0 none, some (28, true)⟩,
            ⟨some 32, .ld (.t 31) none false none, some (28, true)⟩,
            ⟨some 33, .len false (.t 32) none, some (28, true)⟩,
            ⟨some 34, .cp (.t 0), some (28, true)⟩,
            ⟨some 35, .nck (.t 34) none, some (28, true)⟩,
            ⟨some 36, .fa (.t 35) 1 none, some (28, true)⟩,
            ⟨some 37, .ld (.t 36) none false none, some (28, true)⟩,
            ⟨some 38, .bin .sub (.t 33) (.t 37), some (28, true)⟩,
            ⟨some 39, .cp (.t 4), some (28, true)⟩,
            ⟨some 40, .bin .sub (.t 38) (.t 39), some (28, true)⟩,
            ⟨some 41, .cp (.t 3), some (28, true)⟩,
            ⟨some 42, .bin .lss (.t 40) (.t 41), some (28, true)⟩,
            ⟨some 43, .pick (.t 28) (.t 42) (.c (.bool false)), none⟩])
          (.cond (.t 43) (.reg [
              ⟨some 5, .mv (.c (.int .i64 2)), none⟩])
            .skip))
        (.seq (.seq (.reg [
              ⟨some 44, .mv (.t 5), none⟩,
              ⟨some 45, .bin .neq (.t 44) (.c (.int .i64 0)), none⟩])
            (.cond (.t 45) (.seq (.reg [
                  ⟨some 46, .mv (.t 0), none⟩,
                  ⟨some 47, .mv (.t 5), none⟩,
                  ⟨some 48, .nck (.t 46) none, none⟩,
                  ⟨some 49, .fa (.t 48) 2 none, none⟩,
                  ⟨none, .st (.t 49) (.t 47) 1 false none, none⟩])
                (.seq (.reg [
                    ⟨some 2, .mv (.c (.str [])), none⟩])
                  .ret))
              .skip))
          (.seq (.reg [
              ⟨some 50, .mv (.t 0), none⟩,
              ⟨some 51, .nck (.t 50) none, none⟩,
              ⟨some 52, .fa (.t 51) 1 none, none⟩,
              ⟨some 53, .ld (.t 52) none false none, none⟩,
              ⟨some 54, .mv (.t 4), none⟩,
              ⟨some 55, .bin .add (.t 53) (.t 54), none⟩,
              ⟨some 6, .mv (.t 55), none⟩])
            (.seq (.reg [
                ⟨some 56, .mv (.t 0), none⟩,
                ⟨some 57, .mv (.t 6), none⟩,
                ⟨some 58, .mv (.t 3), none⟩,
                ⟨some 59, .bin .add (.t 57) (.t 58), none⟩,
                ⟨some 60, .nck (.t 56) none, none⟩,
                ⟨some 61, .fa (.t 60) 1 none, none⟩,
                ⟨none, .st (.t 61) (.t 59) 1 false none, none⟩])
              (.seq (.dreg [
                  ⟨some 62, .cp (.t 0), none⟩,
                  ⟨some 63, .nck (.t 62) none, none⟩,
                  ⟨some 64, .fa (.t 63) 0 none, none⟩,
                  ⟨some 65, .ld (.t 64) none false none, none⟩,
                  ⟨some 66, .cp (.t 6), none⟩,
                  ⟨some 67, .cp (.t 0), none⟩,
                  ⟨some 68, .nck (.t 67) none, none⟩,
                  ⟨some 69, .fa (.t 68) 1 none, none⟩,
                  ⟨some 70, .ld (.t 69) none false none, none⟩,
                  ⟨some 71, .slc (some 1) (.t 65) (some (.t 66)) (some (.t 70)) none, none⟩,
                  ⟨some 72, .cvs (.t 71) none, none⟩,
                  ⟨some 2, .cp (.t 72), none⟩])
                .ret)))))))), [.tmp 2]⟩

/- (*billing/codec.source).flag -/
def a_codec_source_flag : AF := ⟨24, (.seq (.reg [
    ⟨some 2, .mv (.c (.bool false)), none⟩])
  (.seq (.reg [
      ⟨some 4, .mv (.t 0), none⟩,
      ⟨some 5, .call n_codec_source_number [((.t 4), false)] true, none⟩,
      ⟨some 3, .mv (.t 5), none⟩])
    (.seq (.seq (.reg [
          ⟨some 6, .mv (.t 0), none⟩,
          ⟨some 7, .nck (.t 6) none, none⟩,
          ⟨some 8, .fa (.t 7) 2 none, none⟩,
          ⟨some 9, .ld (.t 8) none false none, none⟩,
          ⟨some 10, .bin .eql (.t 9) (.c (.int .i64 0)), none⟩,
          ⟨some 11, .mv (.t 10), none⟩,
          ⟨some 12, .mv (.t 3), some (11, true)⟩,
          ⟨some 13, .bin .neq (.t 12) (.c (.int .i64 0)), some (11, true)⟩,
          ⟨some 14, .pick (.t 11) (.t 13) (.c (.bool false)), none⟩,
          ⟨some 15, .mv (.t 14), none⟩,
          ⟨some 16, .mv (.t 3), some (15, true)⟩,
          ⟨some 17, .bin .neq (.t 16) (.c (.int .i64 1)), some (15, true)⟩,
          ⟨some 18, .pick (.t 15) (.t 17) (.c (.bool false)), none⟩])
        (.cond (.t 18) (.reg [
            ⟨some 19, .mv (.t 0), none⟩,
            ⟨some 20, .nck (.t 19) none, none⟩,
            ⟨some 21, .fa (.t 20) 2 none, none⟩,
            ⟨none, .st (.t 21) (.c (.int .i64 1)) 1 false none, none⟩])
          .skip))
      (.seq (.reg [
          ⟨some 22, .mv (.t 3), none⟩,
          ⟨some 23, .bin .eql (.t 22) (.c (.int .i64 1)), none⟩,
          ⟨some 2, .mv (.t 23), none⟩])
        .ret)))), [.tmp 2]⟩

/- (*billing/billingref07.reader).number -/
def a_billingref07_reader_number : AF := ⟨29, (.seq (.reg [
    ⟨some 2, .mv (.c (.int .i64 0)), none⟩])
  (.seq (.seq (.reg [
        ⟨some 6, .mv (.t 0), none⟩,
        ⟨some 7, .nck (.t 6) none, none⟩,
        ⟨some 8, .fa (.t 7) 1 none, none⟩,
        ⟨some 9, .ld (.t 8) none false none, none⟩,
        ⟨some 10, .bin .neq (.t 9) (.c (.int .i64 0)), none⟩])
      (.cond (.t 10) (.seq (.reg [
            ⟨some 2, .mv (.c (.int .i64 0)), none⟩])
          .ret)
        .skip))
    (.seq (.reg [
        ⟨some 12, .mv (.t 0), none⟩,
        ⟨some 13, .nck (.t 12) none, none⟩,
        ⟨some 14, .fa (.t 13) 0 none, none⟩,
        ⟨some 15, .ld (.t 14) none false none, none⟩,
        ⟨some 16, .call n_billingref07_Number [((.t 15), false)] false, none⟩,
        ⟨some 11, .mv (.t 16), none⟩,
        ⟨some 17, .ext 11 0, none⟩,
        ⟨some 18, .ext 11 1, none⟩,
        ⟨none, .cm 18, none⟩,
        ⟨some 19, .ext 11 2, none⟩,
        ⟨some 3, .mv (.t 17), none⟩,
        ⟨some 4, .mv (.t 18), none⟩,
        ⟨none, .cm 4, none⟩,
        ⟨some 5, .mv (.t 19), none⟩])
      (.seq (.reg [
          ⟨some 20, .mv (.t 0), none⟩,
          ⟨none, .cm 4, none⟩,
          ⟨some 21, .cp (.t 4), none⟩,
          ⟨some 22, .nck (.t 20) none, none⟩,
          ⟨some 23, .fa (.t 22) 0 none, none⟩,
          ⟨none, .cm 21, none⟩,
          ⟨none, .st (.t 23) (.t 21) 1 false none, none⟩])
        (.seq (.reg [
            ⟨some 24, .mv (.t 0), none⟩,
            ⟨some 25, .mv (.t 5), none⟩,
            ⟨some 26, .nck (.t 24) none, none⟩,
            ⟨some 27, .fa (.t 26) 1 none, none⟩,
            ⟨none, .st (.t 27) (.t 25) 1 false none, none⟩])
          (.seq (.reg [
              ⟨some 28, .mv (.t 3), none⟩,
              ⟨some 2, .mv (.t 28), none⟩])
            .ret)))))), [.tmp 2]⟩

/- (*billing/billingref07.reader).text -/
def a_billingref07_reader_text : AF := ⟨29, (.seq (.reg [
    ⟨some 2, .mv (.c (.str [])), none⟩])
  (.seq (.seq (.reg [
        ⟨some 6, .mv (.t 0), none⟩,
        ⟨some 7, .nck (.t 6) none, none⟩,
        ⟨some 8, .fa (.t 7) 1 none, none⟩,
        ⟨some 9, .ld (.t 8) none false none, none⟩,
        ⟨some 10, .bin .neq (.t 9) (.c (.int .i64 0)), none⟩])
      (.cond (.t 10) (.seq (.reg [
            ⟨some 2, .mv (.c (.str [])), none⟩])
          .ret)
        .skip))
    (.seq (.reg [
        ⟨some 12, .mv (.t 0), none⟩,
        ⟨some 13, .nck (.t 12) none, none⟩,
        ⟨some 14, .fa (.t 13) 0 none, none⟩,
        ⟨some 15, .ld (.t 14) none false none, none⟩,
        ⟨some 16, .call n_billingref07_Text [((.t 15), false)] false, none⟩,
        ⟨some 11, .mv (.t 16), none⟩,
        ⟨some 17, .ext 11 0, none⟩,
        ⟨some 18, .ext 11 1, none⟩,
        ⟨none, .cm 18, none⟩,
        ⟨some 19, .ext 11 2, none⟩,
        ⟨some 3, .mv (.t 17), none⟩,
        ⟨some 4, .mv (.t 18), none⟩,
        ⟨none, .cm 4, none⟩,
        ⟨some 5, .mv (.t 19), none⟩])
      (.seq (.reg [
          ⟨some 20, .mv (.t 0), none⟩,
          ⟨none, .cm 4, none⟩,
          ⟨some 21, .cp (.t 4), none⟩,
          ⟨some 22, .nck (.t 20) none, none⟩,
          ⟨some 23, .fa (.t 22) 0 none, none⟩,
          ⟨none, .cm 21, none⟩,
          ⟨none, .st (.t 23) (.t 21) 1 false none, none⟩])
        (.seq (.reg [
            ⟨some 24, .mv (.t 0), none⟩,
            ⟨some 25, .mv (.t 5), none⟩,
            ⟨some 26, .nck (.t 24) none, none⟩,
            ⟨some 27, .fa (.t 26) 1 none, none⟩,
            ⟨none, .st (.t 27) (.t 25) 1 false none, none⟩])
          (.seq (.reg [
              ⟨some 28, .mv (.t 3), none⟩,
              ⟨some 2, .mv (.t 28), none⟩])
            .ret)))))), [.tmp 2]⟩

/- (*billing/billingref07.reader).truth -/
def a_billingref07_reader_truth : AF := ⟨24, (.seq (.reg [
    ⟨some 2, .mv (.c (.bool false)), none⟩])
  (.seq (.reg [
      ⟨some 4, .mv (.t 0), none⟩,
      ⟨some 5, .call n_billingref07_reader_number [((.t 4), false)] true, none⟩,
      ⟨some 3, .mv (.t 5), none⟩])
    (.seq (.seq (.reg [
          ⟨some 6, .mv (.t 0), none⟩,
          ⟨some 7, .nck (.t 6) none, none⟩,
          ⟨some 8, .fa (.t 7) 1 none, none⟩,
          ⟨some 9, .ld (.t 8) none false none, none⟩,
          ⟨some 10, .bin .eql (.t 9) (.c (.int .i64 0)), none⟩,
          ⟨some 11, .mv (.t 10), none⟩,
          ⟨some 12, .mv (.t 3), some (11, true)⟩,
          ⟨some 13, .bin .neq (.t 12) (.c (.int .i64 0)), some (11, true)⟩,
          ⟨some 14, .pick (.t 11) (.t 13) (.c (.bool false)), none⟩,
          ⟨some 15, .mv (.t 14), none⟩,
          ⟨some 16, .mv (.t 3), some (15, true)⟩,
          ⟨some 17, .bin .neq (.t 16) (.c (.int .i64 1)), some (15, true)⟩,
          ⟨some 18, .pick (.t 15) (.t 17) (.c (.bool false)), none⟩])
        (.cond (.t 18) (.reg [
            ⟨some 19, .mv (.t 0), none⟩,
            ⟨some 20, .nck (.t 19) none, none⟩,
            ⟨some 21, .fa (.t 20) 1 none, none⟩,
            ⟨none, .st (.t 21) (.c (.int .i64 1)) 1 false none, none⟩])
          .skip))
      (.seq (.reg [
          ⟨some 22, .mv (.t 3), none⟩,
          ⟨some 23, .bin .eql (.t 22) (.c (.int .i64 1)), none⟩,
          ⟨some 2, .mv (.t 23), none⟩])
        .ret)))), [.tmp 2]⟩

/- billing/billingref07.truth -/
def a_billingref07_truth : AF := ⟨4, (.seq (.reg [
    ⟨some 2, .mv (.c (.int .i64 0)), none⟩])
  (.seq (.seq (.reg [
        ⟨some 3, .mv (.t 0), none⟩])
      (.cond (.t 3) (.seq (.reg [
            ⟨some 2, .mv (.c (.int .i64 1)), none⟩])
          .ret)
        .skip))
    (.seq (.reg [
        ⟨some 2, .mv (.c (.int .i64 0)), none⟩])
      .ret))), [.tmp 2]⟩

/- billing/codec.zigzag -/
def a_codec_zigzag : AF := ⟨10, (.seq (.reg [
    ⟨some 2, .mv (.c (.int .u64 0)), none⟩])
  (.seq (.reg [
      ⟨some 3, .mv (.t 0), none⟩,
      ⟨some 4, .cvi .u64 (.t 3), none⟩,
      ⟨some 5, .bin .shl (.t 4) (.c (.int .u64 1)), none⟩,
      ⟨some 6, .mv (.t 0), none⟩,
      ⟨some 7, .bin .shr (.t 6) (.c (.int .u64 63)), none⟩,
      ⟨some 8, .cvi .u64 (.t 7), none⟩,
      ⟨some 9, .bin .xor (.t 5) (.t 8), none⟩,
      ⟨some 2, .mv (.t 9), none⟩])
    .ret)), [.tmp 2]⟩

/- billing/codec.back -/
def a_codec_back : AF := ⟨11, (.seq (.reg [
    ⟨some 2, .mv (.c (.int .i64 0)), none⟩])
  (.seq (.reg [
      ⟨some 3, .mv (.t 0), none⟩,
      ⟨some 4, .bin .shr (.t 3) (.c (.int .u64 1)), none⟩,
      ⟨some 5, .cvi .i64 (.t 4), none⟩,
      ⟨some 6, .mv (.t 0), none⟩,
      ⟨some 7, .bin .and (.t 6) (.c (.int .u64 1)), none⟩,
      ⟨some 8, .cvi .i64 (.t 7), none⟩,
      ⟨some 9, .un .neg (.t 8), none⟩,
      ⟨some 10, .bin .xor (.t 5) (.t 9), none⟩,
      ⟨some 2, .mv (.t 10), none⟩])
    .ret)), [.tmp 2]⟩

def ft : FuncId → Option AF
  | 3 => some a_billinglaw07_CodecNumbers
  | 4 => some a_billinglaw07_CodecApart
  | 5 => some a_billinglaw07_CodecTexts
  | 6 => some a_billinglaw07_CodecReads
  | 7 => some a_billinglaw08_FrameSums
  | 8 => some a_billinglaw08_FrameAlls
  | 9 => some a_billinglaw08_FrameUnwraps
  | 10 => some a_billinglaw08_FrameChanged
  | 11 => some a_billinglaw08_FrameWraps
  | 12 => some a_billinglaw08_FrameLong
  | 13 => some a_billinglaw08_FrameBack
  | 14 => some a_billinglaw08_FrameTorn
  | 15 => some a_billinglaw07_CodecRecords
  | 16 => some a_billinglaw07_CodecCut
  | 17 => some a_billinglaw07_CodecBack
  | 18 => some a_billinglaw07_CodecOnly
  | 19 => some a_billingref07_Same
  | 20 => some a_codec_PutNumber
  | 21 => some a_billingref07_PutNumber
  | 22 => some a_billinglaw07_alive
  | 23 => some a_codec_PutText
  | 24 => some a_codec_PutNumbers
  | 25 => some a_codec_PutRecord
  | 26 => some a_codec_Number
  | 27 => some a_codec_Text
  | 28 => some a_billingref07_Text
  | 29 => some a_billingref07_PutText
  | 30 => some a_billingref07_Number
  | 31 => some a_codec_Numbers
  | 32 => some a_billingref07_Numbers
  | 33 => some a_billingref07_SameInts
  | 34 => some a_frame_Sum
  | 35 => some a_billingref08_Sum
  | 36 => some a_billinglaw08_alive
  | 37 => some a_frame_All
  | 38 => some a_billingref08_All
  | 39 => some a_billingref08_SameAll
  | 40 => some a_frame_Unwrap
  | 41 => some a_billingref08_Unwrap
  | 42 => some a_frame_Wrap
  | 43 => some a_billinglaw08_few
  | 44 => some a_billingref08_Wrap
  | 45 => some a_frame_Join
  | 46 => some a_billingref08_Join
  | 47 => some a_codec_Record
  | 48 => some a_billingref07_Record
  | 49 => some a_billingref07_PutRecord
  | 50 => some a_codec_add
  | 51 => some a_codec_grown
  | 52 => some a_billingref07_join
  | 53 => some a_billingref07_Bytes
  | 54 => some a_codec_truth
  | 55 => some a_codec_scan
  | 56 => some a_codec_rest
  | 57 => some a_codec_length
  | 58 => some a_billingref07_length
  | 59 => some a_frame_locate
  | 60 => some a_frame_copied
  | 61 => some a_frame_wrap
  | 62 => some a_codec_source_number
  | 63 => some a_codec_source_text
  | 64 => some a_codec_source_flag
  | 65 => some a_billingref07_reader_number
  | 66 => some a_billingref07_reader_text
  | 67 => some a_billingref07_reader_truth
  | 68 => some a_billingref07_truth
  | 69 => some a_codec_zigzag
  | 70 => some a_codec_back
  | _ => none

end Go.Am
