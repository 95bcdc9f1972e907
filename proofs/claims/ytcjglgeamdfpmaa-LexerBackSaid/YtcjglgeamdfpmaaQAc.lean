/- The functions as abstract code. -/
import Derived.Test.YtcjglgeamdfpmaaQAmA
namespace Go.Am
def n_billinglaw23_LexerScans : FuncId := 5
def n_billinglaw23_LexerBack : FuncId := 6
def n_billinglaw23_LexerJoins : FuncId := 7
def n_billinglaw23_LexerPlaces : FuncId := 8
def n_billinglaw23_LexerWords : FuncId := 9
def n_billinglaw23_LexerLimits : FuncId := 10
def n_billinglaw23_awake : FuncId := 26
def n_lexer_Scan : FuncId := 27
def n_billingref23_Scan : FuncId := 28
def n_billingref23_Same : FuncId := 29
def n_billingref23_Proper : FuncId := 30
def n_billingref23_Value : FuncId := 31
def n_billingref23_Source : FuncId := 32
def n_billingref23_Skip : FuncId := 33
def n_lexer_Quote : FuncId := 34
def n_lexer_Keyword : FuncId := 35
def n_billingref23_Keyword : FuncId := 36
def n_billingref23_Quote : FuncId := 37
def n_lexer_Scan_1 : FuncId := 66
def n_lexer_scanner_next : FuncId := 67
def n_billingref23_token : FuncId := 68
def n_billingref23_Has : FuncId := 69
def n_billingref23_inText : FuncId := 70
def n_lexer_scanner_blanks : FuncId := 113
def n_lexer_lower : FuncId := 114
def n_lexer_scanner_word : FuncId := 115
def n_lexer_digit : FuncId := 116
def n_lexer_scanner_number : FuncId := 117
def n_lexer_scanner_text : FuncId := 118
def n_lexer_scanner_symbol : FuncId := 119
def n_billingref23_Lower : FuncId := 120
def n_billingref23_word : FuncId := 121
def n_billingref23_Digit : FuncId := 122
def n_billingref23_number : FuncId := 123
def n_billingref23_text : FuncId := 124
def n_billingref23_symbol : FuncId := 125
def n_lexer_fail : FuncId := 161
def n_billingref23_inWord : FuncId := 162
def n_billingref23_Symbols : FuncId := 163

/- billing/billinglaw23.LexerScans -/
def a_billinglaw23_LexerScans : AF := ⟨41, (.seq (.reg [
 ⟨some 2, .mv (.c (.bool false)), none⟩])
 (.seq (.seq (.reg [
 ⟨some 9, .mv (.t 0), none⟩,
 ⟨some 10, .len true (.t 9) none, none⟩,
 ⟨some 11, .bin .gtr (.t 10) (.c (.int .i64 2000)), none⟩])
 (.cond (.t 11) (.seq (.reg [
 ⟨some 12, .call n_billinglaw23_awake [] false, none⟩,
 ⟨some 2, .mv (.t 12), none⟩])
 .ret)
 .skip))
 (.seq (.reg [
 ⟨some 14, .mv (.t 0), none⟩,
 ⟨some 15, .call n_lexer_Scan [((.t 14), false)] false, none⟩,
 ⟨some 13, .mv (.t 15), none⟩,
 ⟨some 16, .ext 13 0, none⟩,
 ⟨none, .cm 16, none⟩,
 ⟨some 17, .ext 13 1, none⟩,
 ⟨some 18, .ext 13 2, none⟩,
 ⟨some 3, .mv (.t 16), none⟩,
 ⟨none, .cm 3, none⟩,
 ⟨some 4, .mv (.t 17), none⟩,
 ⟨some 5, .mv (.t 18), none⟩])
 (.seq (.reg [
 ⟨some 20, .mv (.t 0), none⟩,
 ⟨some 21, .call n_billingref23_Scan [((.t 20), false)] false, none⟩,
 ⟨some 19, .mv (.t 21), none⟩,
 ⟨some 22, .ext 19 0, none⟩,
 ⟨none, .cm 22, none⟩,
 ⟨some 23, .ext 19 1, none⟩,
 ⟨some 24, .ext 19 2, none⟩,
 ⟨some 6, .mv (.t 22), none⟩,
 ⟨none, .cm 6, none⟩,
 ⟨some 7, .mv (.t 23), none⟩,
 ⟨some 8, .mv (.t 24), none⟩])
 (.seq (.reg [
 ⟨none, .cm 3, none⟩,
 ⟨some 25, .cp (.t 3), none⟩,
 ⟨none, .cm 6, none⟩,
 ⟨some 26, .cp (.t 6), none⟩,
 ⟨none, .cm 25, none⟩,
 ⟨none, .cm 26, none⟩,
 ⟨some 27, .call n_billingref23_Same [((.t 25), false), ((.t 26), false)] false, none⟩,
 ⟨some 28, .mv (.t 27), none⟩,
 ⟨some 29, .mv (.t 4), some (28, true)⟩,
 ⟨some 30, .mv (.t 7), some (28, true)⟩,
 ⟨some 31, .bin .eql (.t 29) (.t 30), some (28, true)⟩,
 ⟨some 32, .pick (.t 28) (.t 31) (.c (.bool false)), none⟩,
 ⟨some 33, .mv (.t 32), none⟩,
 ⟨some 34, .mv (.t 5), some (33, true)⟩,
 ⟨some 35, .mv (.t 8), some (33, true)⟩,
 ⟨some 36, .bin .eql (.t 34) (.t 35), some (33, true)⟩,
 ⟨some 37, .pick (.t 33) (.t 36) (.c (.bool false)), none⟩,
 ⟨some 38, .mv (.t 37), none⟩,
 ⟨some 39, .call n_billinglaw23_awake [] false, some (38, true)⟩,
 ⟨some 40, .pick (.t 38) (.t 39) (.c (.bool false)), none⟩,
 ⟨some 2, .mv (.t 40), none⟩])
 .ret))))), [.tmp 2]⟩
@[go_sem] def mk_1 : List Bool := [K0,K0,K0,K0,K1]
@[go_sem] def mk_2 : List Bool := [K0,K0,K0,K0,K0,K0,K0,K0,K0,K0,K1,K1,K1,K1]
@[go_sem] def mk_3 : List Bool := [K1,K0,K1,K0,K0,K1,K1,K0,K0,K0,K1,K1,K1,K1,K1,K1,K1,K1,K1,K1,K1,K1,K1,K1,K1,K1,K1,K1,K1,K1,K1,K1,K1,K1,K1,K1,K1,K1,K1,K1,K1,K1,K1,K1,K1,K1,K1,K1]

/- billing/billinglaw23.LexerBack -/
def billinglaw23_LexerBack_l1b : AC := (.seq (.seq (.reg [
 ⟨some 14, .mv (.t 5), none⟩,
 ⟨some 15, .cp (.t 0), none⟩,
 ⟨some 16, .len false (.t 15) (some 0), none⟩,
 ⟨some 17, .bin .lss (.t 14) (.t 16), none⟩])
 (.cond (.t 17) .skip
 (.exit 0)))
 (.seq (.blk 1 (.seq (.reg [
 ⟨some 20, .cp (.t 0), none⟩,
 ⟨some 21, .mv (.t 5), none⟩,
 ⟨some 22, .ia (.t 20) (.t 21) 4 none (some 0), none⟩,
 ⟨some 23, .ld (.t 22) (some 4) false none, none⟩,
 ⟨some 6, .newbox [(.int .i64 0), (.int .i64 0), (.int .i64 0), (.str [])], none⟩,
 ⟨none, .st (.t 6) (.t 23) 4 false (some 6), none⟩])
 (.seq (.seq (.reg [
 ⟨some 24, .ld (.t 6) (some 4) false (some 6), none⟩,
 ⟨some 25, .call n_billingref23_Proper [((.t 24), false)] false, none⟩,
 ⟨some 26, .un .not (.t 25), none⟩])
 (.cond (.t 26) (.seq (.reg [
 ⟨some 27, .call n_billinglaw23_awake [] false, none⟩,
 ⟨some 2, .mv (.t 27), none⟩])
 (.pre mk_1 .ret))
 .skip))
 (.seq (.reg [
 ⟨some 28, .mv (.t 3), none⟩,
 ⟨some 29, .len true (.t 28) none, none⟩,
 ⟨some 30, .fa (.t 6) 2 (some 6), none⟩,
 ⟨none, .st (.t 30) (.t 29) 1 false (some 6), none⟩])
 (.seq (.reg [
 ⟨some 31, .fa (.t 6) 1 (some 6), none⟩,
 ⟨none, .st (.t 31) (.c (.int .i64 0)) 1 false (some 6), none⟩])
 (.seq (.seq (.reg [
 ⟨some 32, .fa (.t 6) 0 (some 6), none⟩,
 ⟨some 33, .ld (.t 32) none false (some 6), none⟩,
 ⟨some 34, .bin .eql (.t 33) (.c (.int .i64 2)), none⟩])
 (.cond (.t 34) (.reg [
 ⟨some 35, .fa (.t 6) 3 (some 6), none⟩,
 ⟨some 36, .ld (.t 35) none false (some 6), none⟩,
 ⟨some 37, .call n_billingref23_Value [((.t 36), false)] false, none⟩,
 ⟨some 38, .fa (.t 6) 1 (some 6), none⟩,
 ⟨none, .st (.t 38) (.t 37) 1 false (some 6), none⟩])
 .skip))
 (.seq (.reg [
 ⟨some 39, .mv (.t 4), none⟩,
 ⟨some 40, .ld (.t 6) (some 4) false (some 6), none⟩,
 ⟨some 41, .bsl 4 1 (.agg [(.int .i64 0), (.int .i64 0), (.int .i64 0), (.str [])]) [(0, (.t 40))], none⟩,
 ⟨some 42, .app 4 40 (.t 39) (.t 41) none, none⟩,
 ⟨some 4, .mv (.t 42), none⟩])
 (.reg [
 ⟨some 43, .mv (.t 3), none⟩,
 ⟨some 44, .ld (.t 6) (some 4) false (some 6), none⟩,
 ⟨some 45, .call n_billingref23_Source [((.t 44), false)] false, none⟩,
 ⟨some 46, .bin .add (.t 43) (.t 45), none⟩,
 ⟨some 47, .bin .add (.t 46) (.c (.str [32])), none⟩,
 ⟨some 3, .mv (.t 47), none⟩]))))))))
 (.reg [
 ⟨some 18, .mv (.t 5), none⟩,
 ⟨some 19, .bin .add (.t 18) (.c (.int .i64 1)), none⟩,
 ⟨some 5, .mv (.t 19), none⟩])))
@[go_sem] def mk_4 : List Bool := [K0,K0,K1,K0,K0,K0,K1,K0,K0,K0,K0,K0,K0,K0,K1,K1,K1,K1,K1,K1,K1,K1,K1,K1,K1,K1,K1,K1,K1,K1,K1,K1,K1,K1,K1,K1,K1,K1,K1,K1,K1,K1,K1,K1,K1,K1,K1,K1]
def billinglaw23_LexerBack_l1 : AC := .pre mk_4 billinglaw23_LexerBack_l1b
@[go_sem] theorem billinglaw23_LexerBack_l1_go : LoopRule billinglaw23_LexerBack_l1 billinglaw23_LexerBack_l1b mk_4 := loopRule
@[go_sem] theorem billinglaw23_LexerBack_l1_lp : LpRule billinglaw23_LexerBack_l1 billinglaw23_LexerBack_l1b mk_4 := lpRule
def billinglaw23_LexerBack_k1b : AC := (.seq (.reg [
 ⟨some 48, .mv (.t 4), none⟩,
 ⟨some 49, .mv (.t 3), none⟩,
 ⟨some 50, .len true (.t 49) none, none⟩,
 ⟨some 51, .build [(.int .i64 0), (.int .i64 0), (.int .i64 0), (.str [])] [(0, 1, (.c (.int .i64 0))), (2, 1, (.t 50))], none⟩,
 ⟨some 52, .bsl 4 1 (.agg [(.int .i64 0), (.int .i64 0), (.int .i64 0), (.str [])]) [(0, (.t 51))], none⟩,
 ⟨some 53, .app 4 40 (.t 48) (.t 52) none, none⟩,
 ⟨some 4, .mv (.t 53), none⟩])
 (.seq (.reg [
 ⟨some 55, .mv (.t 3), none⟩,
 ⟨some 56, .call n_lexer_Scan [((.t 55), false)] false, none⟩,
 ⟨some 54, .mv (.t 56), none⟩,
 ⟨some 57, .ext 54 0, none⟩,
 ⟨none, .cm 57, none⟩,
 ⟨some 58, .ext 54 1, none⟩,
 ⟨some 59, .ext 54 2, none⟩,
 ⟨some 7, .mv (.t 57), none⟩,
 ⟨none, .cm 7, none⟩,
 ⟨some 8, .mv (.t 58), none⟩,
 ⟨some 9, .mv (.t 59), none⟩])
 (.seq (.reg [
 ⟨some 60, .mv (.t 9), none⟩,
 ⟨some 61, .bin .eql (.t 60) (.c (.int .i64 0)), none⟩,
 ⟨some 62, .mv (.t 61), none⟩,
 ⟨some 63, .mv (.t 8), some (62, true)⟩,
 ⟨some 64, .bin .eql (.t 63) (.c (.int .i64 0)), some (62, true)⟩,
 ⟨some 65, .pick (.t 62) (.t 64) (.c (.bool false)), none⟩,
 ⟨some 66, .mv (.t 65), none⟩,
 ⟨none, .cm 7, none⟩,
 ⟨some 67, .cp (.t 7), some (66, true)⟩,
 ⟨none, .cm 4, none⟩,
 ⟨some 68, .cp (.t 4), some (66, true)⟩,
 ⟨none, .cm 67, none⟩,
 ⟨none, .cm 68, none⟩,
 ⟨some 69, .call n_billingref23_Same [((.t 67), false), ((.t 68), false)] false, some (66, true)⟩,
 ⟨some 70, .pick (.t 66) (.t 69) (.c (.bool false)), none⟩,
 ⟨some 71, .mv (.t 70), none⟩,
 ⟨some 72, .call n_billinglaw23_awake [] false, some (71, true)⟩,
 ⟨some 73, .pick (.t 71) (.t 72) (.c (.bool false)), none⟩,
 ⟨some 2, .mv (.t 73), none⟩])
 (.pre mk_1 .ret))))
def billinglaw23_LexerBack_k1 : AC := .pre mk_3 billinglaw23_LexerBack_k1b
def a_billinglaw23_LexerBack : AF := ⟨74, (.seq (.reg [
 ⟨some 2, .mv (.c (.bool false)), none⟩])
 (.seq (.seq (.reg [
 ⟨some 10, .cp (.t 0), none⟩,
 ⟨some 11, .len false (.t 10) (some 0), none⟩,
 ⟨some 12, .bin .gtr (.t 11) (.c (.int .i64 60)), none⟩])
 (.cond (.t 12) (.seq (.reg [
 ⟨some 13, .call n_billinglaw23_awake [] false, none⟩,
 ⟨some 2, .mv (.t 13), none⟩])
 .ret)
 .skip))
 (.seq (.reg [
 ⟨some 3, .mv (.c (.str [])), none⟩])
 (.seq (.reg [
 ⟨some 4, .mv (.c (.sl true 4 [])), none⟩])
 (.seq (.seq (.reg [
 ⟨some 5, .mv (.c (.int .i64 0)), none⟩])
 (.blk 0 (.pre mk_2 (.loop billinglaw23_LexerBack_l1))))
 billinglaw23_LexerBack_k1))))), [.tmp 2]⟩
@[go_sem] def mk_5 : List Bool := [K0,K1,K0,K0,K0,K0,K1,K1,K0,K1,K1,K0,K1,K1,K0,K0,K1,K1,K1,K1,K1,K1,K1,K1,K1,K1,K1,K1,K1,K1,K1,K1,K1,K1,K1,K1,K1,K1,K1,K1,K1,K1,K1,K1,K1,K1,K1,K1,K1,K1,K1,K1,K1,K1,K1,K1,K1,K1,K1,K1,K1,K1,K1,K1,K1,K1,K1,K1,K1,K1,K1,K1,K1,K1,K1,K1,K1,K1,K1,K1,K1,K1,K1,K1,K1,K1,K1,K1]
@[go_sem] def mk_6 : List Bool := [K1,K1,K0,K0,K1,K1,K1,K1,K1,K1,K1,K1,K1,K1,K1,K1,K1,K1,K1,K1,K1,K1,K1,K1,K1,K1,K1,K1,K1,K1,K1,K1,K1,K1,K1,K1,K1,K1,K1,K1,K1,K1,K1,K1,K1,K1,K1,K1,K1,K1,K1,K1,K1,K1,K1,K1,K1,K1,K1,K1,K1,K1,K1,K1,K1,K1,K1,K1,K1,K1,K1,K1,K1,K1,K1,K1,K1,K1,K1,K1,K1,K1,K1,K1,K1,K1,K1,K1,K1,K1,K1,K1,K1,K1,K1,K1,K1,K1,K1,K1,K1,K1,K1,K1,K1,K1,K1,K1,K1,K1,K1,K1,K1,K1,K1,K1,K1,K1,K1,K1,K1,K1,K1,K1]

/- billing/billinglaw23.LexerJoins -/
def billinglaw23_LexerJoins_l1b : AC := (.seq (.seq (.reg [
 ⟨some 88, .mv (.t 14), none⟩,
 ⟨some 89, .al 11, none⟩,
 ⟨some 90, .len false (.t 89) (some 11), none⟩,
 ⟨some 91, .bin .lss (.t 88) (.t 90), none⟩])
 (.cond (.t 91) .skip
 (.exit 0)))
 (.seq (.blk 1 (.seq (.reg [
 ⟨some 15, .newbox [(.int .i64 0), (.int .i64 0), (.int .i64 0), (.str [])], none⟩])
 (.seq (.seq (.reg [
 ⟨some 94, .mv (.t 14), none⟩,
 ⟨some 95, .al 5, none⟩,
 ⟨some 96, .len false (.t 95) (some 5), none⟩,
 ⟨some 97, .bin .sub (.t 96) (.c (.int .i64 1)), none⟩,
 ⟨some 98, .bin .lss (.t 94) (.t 97), none⟩])
 (.cond (.t 98) (.reg [
 ⟨some 99, .al 5, none⟩,
 ⟨some 100, .mv (.t 14), none⟩,
 ⟨some 101, .ia (.t 99) (.t 100) 4 none (some 5), none⟩,
 ⟨some 102, .ld (.t 101) (some 4) false none, none⟩,
 ⟨none, .st (.t 15) (.t 102) 4 false (some 15), none⟩])
 (.seq (.reg [
 ⟨some 103, .al 8, none⟩,
 ⟨some 104, .mv (.t 14), none⟩,
 ⟨some 105, .al 5, none⟩,
 ⟨some 106, .len false (.t 105) (some 5), none⟩,
 ⟨some 107, .bin .sub (.t 104) (.t 106), none⟩,
 ⟨some 108, .bin .add (.t 107) (.c (.int .i64 1)), none⟩,
 ⟨some 109, .ia (.t 103) (.t 108) 4 none (some 8), none⟩,
 ⟨some 110, .ld (.t 109) (some 4) false none, none⟩,
 ⟨none, .st (.t 15) (.t 110) 4 false (some 15), none⟩])
 (.reg [
 ⟨some 111, .fa (.t 15) 2 (some 15), none⟩,
 ⟨some 112, .ld (.t 111) none false (some 15), none⟩,
 ⟨some 113, .mv (.t 0), none⟩,
 ⟨some 114, .len true (.t 113) none, none⟩,
 ⟨some 115, .bin .add (.t 112) (.t 114), none⟩,
 ⟨some 116, .bin .add (.t 115) (.c (.int .i64 1)), none⟩,
 ⟨some 117, .fa (.t 15) 2 (some 15), none⟩,
 ⟨none, .st (.t 117) (.t 116) 1 false (some 15), none⟩]))))
 (.seq (.dreg [
 ⟨some 118, .al 11, none⟩,
 ⟨some 119, .cp (.t 14), none⟩,
 ⟨some 120, .ia (.t 118) (.t 119) 4 none (some 11), none⟩,
 ⟨some 121, .ld (.t 120) (some 4) false none, none⟩,
 ⟨some 122, .ld (.t 15) (some 4) false (some 15), none⟩,
 ⟨some 123, .eqs true [0, 0, 0, 2] (.t 121) (.t 122), none⟩])
 (.cond (.t 123) (.seq (.reg [
 ⟨some 4, .mv (.c (.bool false)), none⟩])
 .ret)
 .skip)))))
 (.reg [
 ⟨some 92, .mv (.t 14), none⟩,
 ⟨some 93, .bin .add (.t 92) (.c (.int .i64 1)), none⟩,
 ⟨some 14, .mv (.t 93), none⟩])))
@[go_sem] def mk_7 : List Bool := [K0,K0,K0,K0,K1,K0,K0,K0,K0,K0,K0,K0,K0,K0,K0,K1,K0,K0,K0,K0,K0,K0,K0,K0,K0,K0,K0,K0,K0,K0,K0,K0,K0,K0,K0,K0,K0,K0,K0,K0,K0,K0,K0,K0,K0,K0,K0,K0,K0,K0,K0,K0,K0,K0,K0,K0,K0,K0,K0,K0,K0,K0,K0,K0,K0,K0,K0,K0,K0,K0,K0,K0,K0,K0,K0,K0,K0,K0,K0,K0,K0,K0,K0,K0,K0,K0,K0,K0,K1,K1,K1,K1,K1,K1,K1,K1,K1,K1,K1,K1,K1,K1,K1,K1,K1,K1,K1,K1,K1,K1,K1,K1,K1,K1,K1,K1,K1,K1,K1,K1,K1,K1,K1,K1]
def billinglaw23_LexerJoins_l1 : AC := .pre mk_7 billinglaw23_LexerJoins_l1b
@[go_sem] theorem billinglaw23_LexerJoins_l1_go : LoopRule billinglaw23_LexerJoins_l1 billinglaw23_LexerJoins_l1b mk_7 := loopRule
@[go_sem] theorem billinglaw23_LexerJoins_l1_lp : LpRule billinglaw23_LexerJoins_l1 billinglaw23_LexerJoins_l1b mk_7 := lpRule
def billinglaw23_LexerJoins_k1b : AC := (.seq (.reg [
 ⟨some 124, .call n_billinglaw23_awake [] false, none⟩,
 ⟨some 4, .mv (.t 124), none⟩])
 .ret)
def billinglaw23_LexerJoins_k1 : AC := .pre mk_6 billinglaw23_LexerJoins_k1b
def a_billinglaw23_LexerJoins : AF := ⟨125, (.seq (.reg [
 ⟨some 4, .mv (.c (.bool false)), none⟩])
 (.seq (.seq (.reg [
 ⟨some 16, .mv (.t 0), none⟩,
 ⟨some 17, .len true (.t 16) none, none⟩,
 ⟨some 18, .bin .gtr (.t 17) (.c (.int .i64 2000)), none⟩,
 ⟨some 19, .mv (.t 18), none⟩,
 ⟨some 20, .mv (.t 1), some (19, false)⟩,
 ⟨some 21, .len true (.t 20) none, some (19, false)⟩,
 ⟨some 22, .bin .gtr (.t 21) (.c (.int .i64 2000)), some (19, false)⟩,
 ⟨some 23, .pick (.t 19) (.c (.bool true)) (.t 22), none⟩])
 (.cond (.t 23) (.seq (.reg [
 ⟨some 24, .call n_billinglaw23_awake [] false, none⟩,
 ⟨some 4, .mv (.t 24), none⟩])
 .ret)
 .skip))
 (.seq (.reg [
 ⟨some 26, .mv (.t 0), none⟩,
 ⟨some 27, .call n_lexer_Scan [((.t 26), false)] false, none⟩,
 ⟨some 25, .mv (.t 27), none⟩,
 ⟨some 28, .ext 25 0, none⟩,
 ⟨none, .cm 28, none⟩,
 ⟨some 29, .ext 25 1, none⟩,
 ⟨some 30, .ext 25 2, none⟩,
 ⟨some 5, .mv (.t 28), none⟩,
 ⟨none, .cm 5, none⟩,
 ⟨some 6, .mv (.t 29), none⟩,
 ⟨some 7, .mv (.t 30), none⟩])
 (.seq (.reg [
 ⟨some 32, .mv (.t 1), none⟩,
 ⟨some 33, .call n_lexer_Scan [((.t 32), false)] false, none⟩,
 ⟨some 31, .mv (.t 33), none⟩,
 ⟨some 34, .ext 31 0, none⟩,
 ⟨none, .cm 34, none⟩,
 ⟨some 35, .ext 31 1, none⟩,
 ⟨some 36, .ext 31 2, none⟩,
 ⟨some 8, .mv (.t 34), none⟩,
 ⟨none, .cm 8, none⟩,
 ⟨some 9, .mv (.t 35), none⟩,
 ⟨some 10, .mv (.t 36), none⟩])
 (.seq (.reg [
 ⟨some 38, .mv (.t 0), none⟩,
 ⟨some 39, .bin .add (.t 38) (.c (.str [10])), none⟩,
 ⟨some 40, .mv (.t 1), none⟩,
 ⟨some 41, .bin .add (.t 39) (.t 40), none⟩,
 ⟨some 42, .call n_lexer_Scan [((.t 41), false)] false, none⟩,
 ⟨some 37, .mv (.t 42), none⟩,
 ⟨some 43, .ext 37 0, none⟩,
 ⟨none, .cm 43, none⟩,
 ⟨some 44, .ext 37 1, none⟩,
 ⟨some 45, .ext 37 2, none⟩,
 ⟨some 11, .mv (.t 43), none⟩,
 ⟨none, .cm 11, none⟩,
 ⟨some 12, .mv (.t 44), none⟩,
 ⟨some 13, .mv (.t 45), none⟩])
 (.seq (.seq (.reg [
 ⟨some 46, .mv (.t 7), none⟩,
 ⟨some 47, .bin .neq (.t 46) (.c (.int .i64 0)), none⟩])
 (.cond (.t 47) (.seq (.reg [
 ⟨some 48, .mv (.t 13), none⟩,
 ⟨some 49, .bin .neq (.t 48) (.c (.int .i64 0)), none⟩,
 ⟨some 50, .mv (.t 49), none⟩,
 ⟨some 51, .call n_billinglaw23_awake [] false, some (50, true)⟩,
 ⟨some 52, .pick (.t 50) (.t 51) (.c (.bool false)), none⟩,
 ⟨some 4, .mv (.t 52), none⟩])
 .ret)
 .skip))
 (.seq (.seq (.reg [
 ⟨some 53, .mv (.t 10), none⟩,
 ⟨some 54, .bin .neq (.t 53) (.c (.int .i64 0)), none⟩])
 (.cond (.t 54) (.seq (.reg [
 ⟨some 55, .mv (.t 13), none⟩,
 ⟨some 56, .mv (.t 10), none⟩,
 ⟨some 57, .bin .eql (.t 55) (.t 56), none⟩,
 ⟨some 58, .mv (.t 57), none⟩,
 ⟨some 59, .mv (.t 12), some (58, true)⟩,
 ⟨some 60, .mv (.t 9), some (58, true)⟩,
 ⟨some 61, .mv (.t 0), some (58, true)⟩,
 ⟨some 62, .len true (.t 61) none, some (58, true)⟩,
 ⟨some 63, .bin .add (.t 60) (.t 62), some (58, true)⟩,
 ⟨some 64, .bin .add (.t 63) (.c (.int .i64 1)), some (58, true)⟩,
 ⟨some 65, .bin .eql (.t 59) (.t 64), some (58, true)⟩,
 ⟨some 66, .pick (.t 58) (.t 65) (.c (.bool false)), none⟩,
 ⟨some 67, .mv (.t 66), none⟩,
 ⟨some 68, .call n_billinglaw23_awake [] false, some (67, true)⟩,
 ⟨some 69, .pick (.t 67) (.t 68) (.c (.bool false)), none⟩,
 ⟨some 4, .mv (.t 69), none⟩])
 .ret)
 .skip))
 (.seq (.seq (.reg [
 ⟨some 70, .mv (.t 13), none⟩,
 ⟨some 71, .bin .neq (.t 70) (.c (.int .i64 0)), none⟩,
 ⟨some 72, .mv (.t 71), none⟩,
 ⟨some 73, .al 5, some (72, false)⟩,
 ⟨some 74, .len false (.t 73) (some 5), some (72, false)⟩,
 ⟨some 75, .bin .lss (.t 74) (.c (.int .i64 1)), some (72, false)⟩,
 ⟨some 76, .pick (.t 72) (.c (.bool true)) (.t 75), none⟩,
 ⟨some 77, .mv (.t 76), none⟩,
 ⟨some 78, .al 11, some (77, false)⟩,
 ⟨some 79, .len false (.t 78) (some 11), some (77, false)⟩,
 ⟨some 80, .al 5, some (77, false)⟩,
 ⟨some 81, .len false (.t 80) (some 5), some (77, false)⟩,
 ⟨some 82, .bin .sub (.t 81) (.c (.int .i64 1)), some (77, false)⟩,
 ⟨some 83, .al 8, some (77, false)⟩,
 ⟨some 84, .len false (.t 83) (some 8), some (77, false)⟩,
 ⟨some 85, .bin .add (.t 82) (.t 84), some (77, false)⟩,
 ⟨some 86, .bin .neq (.t 79) (.t 85), some (77, false)⟩,
 ⟨some 87, .pick (.t 77) (.c (.bool true)) (.t 86), none⟩])
 (.cond (.t 87) (.seq (.reg [
 ⟨some 4, .mv (.c (.bool false)), none⟩])
 .ret)
 .skip))
 (.seq (.seq (.reg [
 ⟨some 14, .mv (.c (.int .i64 0)), none⟩])
 (.blk 0 (.pre mk_5 (.loop billinglaw23_LexerJoins_l1))))
 billinglaw23_LexerJoins_k1))))))))), [.tmp 4]⟩
@[go_sem] def mk_8 : List Bool := [K0,K0,K0,K0,K1,K1,K0,K0,K0,K0,K1,K1,K1,K1,K1,K1,K1,K1,K1,K1,K1,K1,K1,K1,K1,K1,K1,K1]
@[go_sem] def mk_9 : List Bool := [K0,K0,K1,K1,K1,K1,K0,K1,K1,K1,K1,K1,K1,K1,K1,K1,K1,K1,K1,K1,K1,K1,K1,K1,K1,K1,K1,K1,K1,K1,K1,K1,K1,K1,K1,K1,K1,K1,K1,K1,K1,K1,K1,K1,K1,K1,K1,K1,K1,K1,K1,K1,K1,K1,K1,K1,K1,K1,K1,K1,K1,K1,K1,K1,K1,K1,K1,K1,K1,K1,K1,K1,K1,K1,K1,K1,K1,K1,K1,K1,K1,K1,K1]

/- billing/billinglaw23.LexerPlaces -/
def billinglaw23_LexerPlaces_l1b : AC := (.seq (.seq (.reg [
 ⟨some 28, .mv (.t 7), none⟩,
 ⟨some 29, .al 3, none⟩,
 ⟨some 30, .len false (.t 29) (some 3), none⟩,
 ⟨some 31, .bin .lss (.t 28) (.t 30), none⟩])
 (.cond (.t 31) .skip
 (.exit 0)))
 (.seq (.blk 1 (.seq (.reg [
 ⟨some 34, .al 3, none⟩,
 ⟨some 35, .mv (.t 7), none⟩,
 ⟨some 36, .ia (.t 34) (.t 35) 4 none (some 3), none⟩,
 ⟨some 37, .ld (.t 36) (some 4) false none, none⟩,
 ⟨some 8, .newbox [(.int .i64 0), (.int .i64 0), (.int .i64 0), (.str [])], none⟩,
 ⟨none, .st (.t 8) (.t 37) 4 false (some 8), none⟩])
 (.seq (.seq (.dreg [
 ⟨some 38, .fa (.t 8) 2 (some 8), none⟩,
 ⟨some 39, .ld (.t 38) none false (some 8), none⟩,
 ⟨some 40, .cp (.t 0), none⟩,
 ⟨some 41, .cp (.t 6), none⟩,
 ⟨some 42, .call n_billingref23_Skip [((.t 40), false), ((.t 41), false)] false, none⟩,
 ⟨some 43, .bin .neq (.t 39) (.t 42), none⟩,
 ⟨some 44, .cp (.t 43), none⟩,
 ⟨some 45, .fa (.t 8) 0 (some 8), some (44, false)⟩,
 ⟨some 46, .ld (.t 45) none false (some 8), some (44, false)⟩,
 ⟨some 47, .bin .eql (.t 46) (.c (.int .i64 0)), some (44, false)⟩,
 ⟨some 48, .cp (.t 47), some (44, false)⟩,
 ⟨some 49, .cp (.t 7), some (48, true)⟩,
 ⟨some 50, .al 3, some (48, true)⟩,
 ⟨some 51, .len false (.t 50) (some 3), some (48, true)⟩,
 ⟨some 52, .bin .sub (.t 51) (.c (.int .i64 1)), some (48, true)⟩,
 ⟨some 53, .bin .neq (.t 49) (.t 52), some (48, true)⟩,
 ⟨some 54, .cp (.t 53), some (48, true)⟩,
 ⟨some 55, .fa (.t 8) 2 (some 8), some (54, false)⟩,
 ⟨some 56, .ld (.t 55) none false (some 8), some (54, false)⟩,
 ⟨some 57, .cp (.t 0), some (54, false)⟩,
 ⟨some 58, .len true (.t 57) none, some (54, false)⟩,
 ⟨some 59, .bin .neq (.t 56) (.t 58), some (54, false)⟩,
 ⟨some 60, .pick (.t 54) (.c (.bool true)) (.t 59), some (48, true)⟩,
 ⟨some 61, .pick (.t 48) (.t 60) (.c (.bool false)), some (44, false)⟩,
 ⟨some 62, .pick (.t 44) (.c (.bool true)) (.t 61), none⟩])
 (.cond (.t 62) (.seq (.reg [
 ⟨some 2, .mv (.c (.bool false)), none⟩])
 .ret)
 .skip))
 (.seq (.reg [
 ⟨some 63, .ld (.t 8) (some 4) false (some 8), none⟩,
 ⟨some 64, .call n_billingref23_Source [((.t 63), false)] false, none⟩,
 ⟨some 9, .mv (.t 64), none⟩])
 (.seq (.reg [
 ⟨some 65, .fa (.t 8) 2 (some 8), none⟩,
 ⟨some 66, .ld (.t 65) none false (some 8), none⟩,
 ⟨some 67, .mv (.t 9), none⟩,
 ⟨some 68, .len true (.t 67) none, none⟩,
 ⟨some 69, .bin .add (.t 66) (.t 68), none⟩,
 ⟨some 6, .mv (.t 69), none⟩])
 (.seq (.reg [
 ⟨some 70, .mv (.t 6), none⟩,
 ⟨some 71, .mv (.t 0), none⟩,
 ⟨some 72, .len true (.t 71) none, none⟩,
 ⟨some 73, .bin .gtr (.t 70) (.t 72), none⟩,
 ⟨some 74, .mv (.t 73), none⟩,
 ⟨some 75, .mv (.t 0), some (74, false)⟩,
 ⟨some 76, .fa (.t 8) 2 (some 8), some (74, false)⟩,
 ⟨some 77, .ld (.t 76) none false (some 8), some (74, false)⟩,
 ⟨some 78, .mv (.t 6), some (74, false)⟩,
 ⟨some 79, .slc none (.t 75) (some (.t 77)) (some (.t 78)) none, some (74, false)⟩,
 ⟨some 80, .mv (.t 9), some (74, false)⟩,
 ⟨some 81, .bin .neq (.t 79) (.t 80), some (74, false)⟩,
 ⟨some 82, .pick (.t 74) (.c (.bool true)) (.t 81), none⟩])
 (.cond (.t 82) (.seq (.reg [
 ⟨some 2, .mv (.c (.bool false)), none⟩])
 .ret)
 .skip)))))))
 (.reg [
 ⟨some 32, .mv (.t 7), none⟩,
 ⟨some 33, .bin .add (.t 32) (.c (.int .i64 1)), none⟩,
 ⟨some 7, .mv (.t 33), none⟩])))
@[go_sem] def mk_10 : List Bool := [K0,K0,K1,K0,K0,K0,K0,K0,K1,K1,K0,K0,K0,K0,K0,K0,K0,K0,K0,K0,K0,K0,K0,K0,K0,K0,K0,K0,K1,K1,K1,K1,K1,K1,K1,K1,K1,K1,K1,K1,K1,K1,K1,K1,K1,K1,K1,K1,K1,K1,K1,K1,K1,K1,K1,K1,K1,K1,K1,K1,K1,K1,K1,K1,K1,K1,K1,K1,K1,K1,K1,K1,K1,K1,K1,K1,K1,K1,K1,K1,K1,K1,K1]
def billinglaw23_LexerPlaces_l1 : AC := .pre mk_10 billinglaw23_LexerPlaces_l1b
@[go_sem] theorem billinglaw23_LexerPlaces_l1_go : LoopRule billinglaw23_LexerPlaces_l1 billinglaw23_LexerPlaces_l1b mk_10 := loopRule
@[go_sem] theorem billinglaw23_LexerPlaces_l1_lp : LpRule billinglaw23_LexerPlaces_l1 billinglaw23_LexerPlaces_l1b mk_10 := lpRule
def billinglaw23_LexerPlaces_k1b : AC := (.seq (.reg [
 ⟨some 83, .mv (.t 6), none⟩,
 ⟨some 84, .mv (.t 0), none⟩,
 ⟨some 85, .len true (.t 84) none, none⟩,
 ⟨some 86, .bin .eql (.t 83) (.t 85), none⟩,
 ⟨some 87, .mv (.t 86), none⟩,
 ⟨some 88, .call n_billinglaw23_awake [] false, some (87, true)⟩,
 ⟨some 89, .pick (.t 87) (.t 88) (.c (.bool false)), none⟩,
 ⟨some 2, .mv (.t 89), none⟩])
 .ret)
def billinglaw23_LexerPlaces_k1 : AC := .pre mk_9 billinglaw23_LexerPlaces_k1b
def a_billinglaw23_LexerPlaces : AF := ⟨90, (.seq (.reg [
 ⟨some 2, .mv (.c (.bool false)), none⟩])
 (.seq (.seq (.reg [
 ⟨some 10, .mv (.t 0), none⟩,
 ⟨some 11, .len true (.t 10) none, none⟩,
 ⟨some 12, .bin .gtr (.t 11) (.c (.int .i64 2000)), none⟩])
 (.cond (.t 12) (.seq (.reg [
 ⟨some 13, .call n_billinglaw23_awake [] false, none⟩,
 ⟨some 2, .mv (.t 13), none⟩])
 .ret)
 .skip))
 (.seq (.reg [
 ⟨some 15, .mv (.t 0), none⟩,
 ⟨some 16, .call n_lexer_Scan [((.t 15), false)] false, none⟩,
 ⟨some 14, .mv (.t 16), none⟩,
 ⟨some 17, .ext 14 0, none⟩,
 ⟨none, .cm 17, none⟩,
 ⟨some 18, .ext 14 1, none⟩,
 ⟨some 19, .ext 14 2, none⟩,
 ⟨some 3, .mv (.t 17), none⟩,
 ⟨none, .cm 3, none⟩,
 ⟨some 4, .mv (.t 18), none⟩,
 ⟨some 5, .mv (.t 19), none⟩])
 (.seq (.seq (.reg [
 ⟨some 20, .mv (.t 5), none⟩,
 ⟨some 21, .bin .neq (.t 20) (.c (.int .i64 0)), none⟩])
 (.cond (.t 21) (.seq (.reg [
 ⟨some 22, .al 3, none⟩,
 ⟨some 23, .len false (.t 22) (some 3), none⟩,
 ⟨some 24, .bin .eql (.t 23) (.c (.int .i64 0)), none⟩,
 ⟨some 25, .mv (.t 24), none⟩,
 ⟨some 26, .call n_billinglaw23_awake [] false, some (25, true)⟩,
 ⟨some 27, .pick (.t 25) (.t 26) (.c (.bool false)), none⟩,
 ⟨some 2, .mv (.t 27), none⟩])
 .ret)
 .skip))
 (.seq (.reg [
 ⟨some 6, .mv (.c (.int .i64 0)), none⟩])
 (.seq (.seq (.reg [
 ⟨some 7, .mv (.c (.int .i64 0)), none⟩])
 (.blk 0 (.pre mk_8 (.loop billinglaw23_LexerPlaces_l1))))
 billinglaw23_LexerPlaces_k1)))))), [.tmp 2]⟩

/- billing/billinglaw23.LexerWords -/
def a_billinglaw23_LexerWords : AF := ⟨51, (.seq (.reg [
 ⟨some 2, .mv (.c (.bool false)), none⟩])
 (.seq (.seq (.reg [
 ⟨some 7, .mv (.t 0), none⟩,
 ⟨some 8, .len true (.t 7) none, none⟩,
 ⟨some 9, .bin .gtr (.t 8) (.c (.int .i64 2000)), none⟩])
 (.cond (.t 9) (.seq (.reg [
 ⟨some 10, .call n_billinglaw23_awake [] false, none⟩,
 ⟨some 2, .mv (.t 10), none⟩])
 .ret)
 .skip))
 (.seq (.reg [
 ⟨some 11, .mv (.t 0), none⟩,
 ⟨some 12, .call n_lexer_Quote [((.t 11), false)] false, none⟩,
 ⟨some 3, .mv (.t 12), none⟩])
 (.seq (.seq (.reg [
 ⟨some 13, .mv (.t 0), none⟩,
 ⟨some 14, .call n_lexer_Keyword [((.t 13), false)] false, none⟩,
 ⟨some 15, .mv (.t 0), none⟩,
 ⟨some 16, .call n_billingref23_Keyword [((.t 15), false)] false, none⟩,
 ⟨some 17, .beq true (.t 14) (.t 16), none⟩,
 ⟨some 18, .mv (.t 17), none⟩,
 ⟨some 19, .mv (.t 3), some (18, false)⟩,
 ⟨some 20, .mv (.t 0), some (18, false)⟩,
 ⟨some 21, .call n_billingref23_Quote [((.t 20), false)] false, some (18, false)⟩,
 ⟨some 22, .bin .neq (.t 19) (.t 21), some (18, false)⟩,
 ⟨some 23, .pick (.t 18) (.c (.bool true)) (.t 22), none⟩])
 (.cond (.t 23) (.seq (.reg [
 ⟨some 2, .mv (.c (.bool false)), none⟩])
 .ret)
 .skip))
 (.seq (.seq (.reg [
 ⟨some 24, .mv (.t 3), none⟩,
 ⟨some 25, .bin .eql (.t 24) (.c (.str [])), none⟩])
 (.cond (.t 25) (.seq (.reg [
 ⟨some 26, .call n_billinglaw23_awake [] false, none⟩,
 ⟨some 2, .mv (.t 26), none⟩])
 .ret)
 .skip))
 (.seq (.reg [
 ⟨some 28, .mv (.t 3), none⟩,
 ⟨some 29, .call n_lexer_Scan [((.t 28), false)] false, none⟩,
 ⟨some 27, .mv (.t 29), none⟩,
 ⟨some 30, .ext 27 0, none⟩,
 ⟨none, .cm 30, none⟩,
 ⟨some 31, .ext 27 1, none⟩,
 ⟨some 32, .ext 27 2, none⟩,
 ⟨some 4, .mv (.t 30), none⟩,
 ⟨none, .cm 4, none⟩,
 ⟨some 5, .mv (.t 31), none⟩,
 ⟨some 6, .mv (.t 32), none⟩])
 (.seq (.reg [
 ⟨some 33, .mv (.t 6), none⟩,
 ⟨some 34, .bin .eql (.t 33) (.c (.int .i64 0)), none⟩,
 ⟨some 35, .mv (.t 34), none⟩,
 ⟨some 36, .al 4, some (35, true)⟩,
 ⟨some 37, .len false (.t 36) (some 4), some (35, true)⟩,
 ⟨some 38, .bin .eql (.t 37) (.c (.int .i64 2)), some (35, true)⟩,
 ⟨some 39, .pick (.t 35) (.t 38) (.c (.bool false)), none⟩,
 ⟨some 40, .mv (.t 39), none⟩,
 ⟨some 41, .al 4, some (40, true)⟩,
 ⟨some 42, .ia (.t 41) (.c (.int .i64 0)) 4 none (some 4), some (40, true)⟩,
 ⟨some 43, .ld (.t 42) (some 4) false none, some (40, true)⟩,
 ⟨some 44, .mv (.t 0), some (40, true)⟩,
 ⟨some 45, .build [(.int .i64 0), (.int .i64 0), (.int .i64 0), (.str [])] [(0, 1, (.c (.int .i64 3))), (3, 1, (.t 44))], some (40, true)⟩,
 ⟨some 46, .eqs false [0, 0, 0, 2] (.t 43) (.t 45), some (40, true)⟩,
 ⟨some 47, .pick (.t 40) (.t 46) (.c (.bool false)), none⟩,
 ⟨some 48, .mv (.t 47), none⟩,
 ⟨some 49, .call n_billinglaw23_awake [] false, some (48, true)⟩,
 ⟨some 50, .pick (.t 48) (.t 49) (.c (.bool false)), none⟩,
 ⟨some 2, .mv (.t 50), none⟩])
 .ret))))))), [.tmp 2]⟩
@[go_sem] def mk_11 : List Bool := [K1,K0,K0,K0,K1,K0,K0,K0,K0,K0,K0,K1,K1,K1,K1,K1,K1]
@[go_sem] def mk_12 : List Bool := [K1,K0,K0,K0,K1,K0,K0,K1,K0,K0,K0,K1,K1,K1,K1,K1,K1,K1,K1,K1,K1,K1,K1,K1,K1]

/- billing/billinglaw23.LexerLimits -/
def billinglaw23_LexerLimits_l1b : AC := (.seq (.seq (.reg [
 ⟨some 17, .mv (.t 7), none⟩,
 ⟨some 18, .mv (.t 5), none⟩,
 ⟨some 19, .bin .lss (.t 17) (.t 18), none⟩])
 (.cond (.t 19) .skip
 (.exit 0)))
 (.seq (.blk 1 (.reg [
 ⟨some 22, .al 6, none⟩,
 ⟨some 23, .mv (.t 7), none⟩,
 ⟨some 24, .ia (.t 22) (.t 23) 1 none (some 6), none⟩,
 ⟨none, .st (.t 24) (.c (.int .u8 32)) 1 false (some 6), none⟩]))
 (.reg [
 ⟨some 20, .mv (.t 7), none⟩,
 ⟨some 21, .bin .add (.t 20) (.c (.int .i64 1)), none⟩,
 ⟨some 7, .mv (.t 21), none⟩])))
@[go_sem] def mk_13 : List Bool := [K0,K0,K0,K0,K0,K0,K0,K0,K0,K0,K0,K0,K0,K0,K0,K0,K0,K1,K1,K1,K1,K1,K1,K1,K1]
def billinglaw23_LexerLimits_l1 : AC := .pre mk_13 billinglaw23_LexerLimits_l1b
@[go_sem] theorem billinglaw23_LexerLimits_l1_go : LoopRule billinglaw23_LexerLimits_l1 billinglaw23_LexerLimits_l1b mk_13 := loopRule
@[go_sem] theorem billinglaw23_LexerLimits_l1_lp : LpRule billinglaw23_LexerLimits_l1 billinglaw23_LexerLimits_l1b mk_13 := lpRule
def billinglaw23_LexerLimits_k1b : AC := (.seq (.seq (.reg [
 ⟨some 25, .mv (.t 1), none⟩])
 (.cond (.t 25) (.reg [
 ⟨some 26, .al 6, none⟩,
 ⟨some 27, .mv (.t 5), none⟩,
 ⟨some 28, .bin .sub (.t 27) (.c (.int .i64 1)), none⟩,
 ⟨some 29, .ia (.t 26) (.t 28) 1 none (some 6), none⟩,
 ⟨none, .st (.t 29) (.c (.int .u8 97)) 1 false (some 6), none⟩])
 .skip))
 (.seq (.reg [
 ⟨some 31, .al 6, none⟩,
 ⟨some 32, .cvs (.t 31) (some 6), none⟩,
 ⟨some 33, .call n_lexer_Scan [((.t 32), false)] false, none⟩,
 ⟨some 30, .mv (.t 33), none⟩,
 ⟨some 34, .ext 30 0, none⟩,
 ⟨none, .cm 34, none⟩,
 ⟨some 35, .ext 30 1, none⟩,
 ⟨some 36, .ext 30 2, none⟩,
 ⟨some 8, .mv (.t 34), none⟩,
 ⟨none, .cm 8, none⟩,
 ⟨some 9, .mv (.t 35), none⟩,
 ⟨some 10, .mv (.t 36), none⟩])
 (.seq (.seq (.reg [
 ⟨some 37, .mv (.t 5), none⟩,
 ⟨some 38, .bin .gtr (.t 37) (.c (.int .i64 65536)), none⟩])
 (.cond (.t 38) (.seq (.reg [
 ⟨some 39, .al 8, none⟩,
 ⟨some 40, .len false (.t 39) (some 8), none⟩,
 ⟨some 41, .bin .eql (.t 40) (.c (.int .i64 0)), none⟩,
 ⟨some 42, .mv (.t 41), none⟩,
 ⟨some 43, .mv (.t 9), some (42, true)⟩,
 ⟨some 44, .bin .eql (.t 43) (.c (.int .i64 0)), some (42, true)⟩,
 ⟨some 45, .pick (.t 42) (.t 44) (.c (.bool false)), none⟩,
 ⟨some 46, .mv (.t 45), none⟩,
 ⟨some 47, .mv (.t 10), some (46, true)⟩,
 ⟨some 48, .bin .eql (.t 47) (.c (.int .i64 5)), some (46, true)⟩,
 ⟨some 49, .pick (.t 46) (.t 48) (.c (.bool false)), none⟩,
 ⟨some 50, .mv (.t 49), none⟩,
 ⟨some 51, .call n_billinglaw23_awake [] false, some (50, true)⟩,
 ⟨some 52, .pick (.t 50) (.t 51) (.c (.bool false)), none⟩,
 ⟨some 4, .mv (.t 52), none⟩])
 .ret)
 .skip))
 (.seq (.reg [
 ⟨some 53, .mv (.t 10), none⟩,
 ⟨some 54, .bin .eql (.t 53) (.c (.int .i64 0)), none⟩,
 ⟨some 55, .mv (.t 54), none⟩,
 ⟨some 56, .al 8, some (55, true)⟩,
 ⟨some 57, .len false (.t 56) (some 8), some (55, true)⟩,
 ⟨some 58, .bin .eql (.t 57) (.c (.int .i64 2)), some (55, true)⟩,
 ⟨some 59, .mv (.t 1), some (55, true)⟩,
 ⟨some 60, .beq false (.t 58) (.t 59), some (55, true)⟩,
 ⟨some 61, .pick (.t 55) (.t 60) (.c (.bool false)), none⟩,
 ⟨some 62, .mv (.t 61), none⟩,
 ⟨some 63, .al 8, some (62, true)⟩,
 ⟨some 64, .len false (.t 63) (some 8), some (62, true)⟩,
 ⟨some 65, .bin .gtr (.t 64) (.c (.int .i64 0)), some (62, true)⟩,
 ⟨some 66, .pick (.t 62) (.t 65) (.c (.bool false)), none⟩,
 ⟨some 67, .mv (.t 66), none⟩,
 ⟨some 68, .al 8, some (67, true)⟩,
 ⟨some 69, .al 8, some (67, true)⟩,
 ⟨some 70, .len false (.t 69) (some 8), some (67, true)⟩,
 ⟨some 71, .bin .sub (.t 70) (.c (.int .i64 1)), some (67, true)⟩,
 ⟨some 72, .ia (.t 68) (.t 71) 4 none (some 8), some (67, true)⟩,
 ⟨some 73, .fa (.t 72) 2 none, some (67, true)⟩,
 ⟨some 74, .ld (.t 73) none false none, some (67, true)⟩,
 ⟨some 75, .mv (.t 5), some (67, true)⟩,
 ⟨some 76, .bin .eql (.t 74) (.t 75), some (67, true)⟩,
 ⟨some 77, .pick (.t 67) (.t 76) (.c (.bool false)), none⟩,
 ⟨some 78, .mv (.t 77), none⟩,
 ⟨some 79, .call n_billinglaw23_awake [] false, some (78, true)⟩,
 ⟨some 80, .pick (.t 78) (.t 79) (.c (.bool false)), none⟩,
 ⟨some 4, .mv (.t 80), none⟩])
 .ret))))
def billinglaw23_LexerLimits_k1 : AC := .pre mk_12 billinglaw23_LexerLimits_k1b
def a_billinglaw23_LexerLimits : AF := ⟨81, (.seq (.reg [
 ⟨some 4, .mv (.c (.bool false)), none⟩])
 (.seq (.reg [
 ⟨some 11, .mv (.t 0), none⟩,
 ⟨some 12, .bin .rem (.t 11) (.c (.int .u8 21)), none⟩,
 ⟨some 13, .cvi .i64 (.t 12), none⟩,
 ⟨some 14, .bin .add (.c (.int .i64 65526)) (.t 13), none⟩,
 ⟨some 5, .mv (.t 14), none⟩])
 (.seq (.reg [
 ⟨some 15, .mv (.t 5), none⟩,
 ⟨some 16, .mk 1 1 (.int .u8 0) (.t 15) (.t 15), none⟩,
 ⟨some 6, .mv (.t 16), none⟩])
 (.seq (.seq (.reg [
 ⟨some 7, .mv (.c (.int .i64 0)), none⟩])
 (.blk 0 (.pre mk_11 (.loop billinglaw23_LexerLimits_l1))))
 billinglaw23_LexerLimits_k1)))), [.tmp 4]⟩

/- billing/billinglaw23.awake -/
def a_billinglaw23_awake : AF := ⟨64, (.seq (.reg [
 ⟨some 0, .mv (.c (.bool false)), none⟩])
 (.seq (.reg [
 ⟨some 8, .call n_lexer_Scan [((.c (.str [117, 112, 116, 111, 32, 54, 48, 32, 112, 101, 114, 32, 49])), false)] false, none⟩,
 ⟨some 7, .mv (.t 8), none⟩,
 ⟨some 9, .ext 7 0, none⟩,
 ⟨none, .cm 9, none⟩,
 ⟨some 10, .ext 7 1, none⟩,
 ⟨some 11, .ext 7 2, none⟩,
 ⟨some 1, .mv (.t 9), none⟩,
 ⟨none, .cm 1, none⟩,
 ⟨some 2, .mv (.t 10), none⟩,
 ⟨some 3, .mv (.t 11), none⟩])
 (.seq (.reg [
 ⟨some 13, .call n_lexer_Scan [((.c (.str [97, 32, 60, 62, 32, 34, 98])), false)] false, none⟩,
 ⟨some 12, .mv (.t 13), none⟩,
 ⟨some 14, .ext 12 0, none⟩,
 ⟨none, .cm 14, none⟩,
 ⟨some 15, .ext 12 1, none⟩,
 ⟨some 16, .ext 12 2, none⟩,
 ⟨some 4, .mv (.t 14), none⟩,
 ⟨none, .cm 4, none⟩,
 ⟨some 5, .mv (.t 15), none⟩,
 ⟨some 6, .mv (.t 16), none⟩])
 (.seq (.reg [
 ⟨some 17, .al 1, none⟩,
 ⟨some 18, .len false (.t 17) (some 1), none⟩,
 ⟨some 19, .bin .eql (.t 18) (.c (.int .i64 5)), none⟩,
 ⟨some 20, .mv (.t 19), none⟩,
 ⟨some 21, .mv (.t 2), some (20, true)⟩,
 ⟨some 22, .bin .eql (.t 21) (.c (.int .i64 0)), some (20, true)⟩,
 ⟨some 23, .pick (.t 20) (.t 22) (.c (.bool false)), none⟩,
 ⟨some 24, .mv (.t 23), none⟩,
 ⟨some 25, .mv (.t 3), some (24, true)⟩,
 ⟨some 26, .bin .eql (.t 25) (.c (.int .i64 0)), some (24, true)⟩,
 ⟨some 27, .pick (.t 24) (.t 26) (.c (.bool false)), none⟩,
 ⟨some 28, .mv (.t 27), none⟩,
 ⟨some 29, .al 1, some (28, true)⟩,
 ⟨some 30, .ia (.t 29) (.c (.int .i64 2)) 4 none (some 1), some (28, true)⟩,
 ⟨some 31, .ld (.t 30) (some 4) false none, some (28, true)⟩,
 ⟨some 32, .build [(.int .i64 0), (.int .i64 0), (.int .i64 0), (.str [])] [(0, 1, (.c (.int .i64 1))), (2, 1, (.c (.int .i64 8))), (3, 1, (.c (.str [112, 101, 114])))], some (28, true)⟩,
 ⟨some 33, .eqs false [0, 0, 0, 2] (.t 31) (.t 32), some (28, true)⟩,
 ⟨some 34, .pick (.t 28) (.t 33) (.c (.bool false)), none⟩,
 ⟨some 35, .mv (.t 34), none⟩,
 ⟨some 36, .al 1, some (35, true)⟩,
 ⟨some 37, .ia (.t 36) (.c (.int .i64 1)) 4 none (some 1), some (35, true)⟩,
 ⟨some 38, .fa (.t 37) 1 none, some (35, true)⟩,
 ⟨some 39, .ld (.t 38) none false none, some (35, true)⟩,
 ⟨some 40, .bin .eql (.t 39) (.c (.int .i64 60)), some (35, true)⟩,
 ⟨some 41, .pick (.t 35) (.t 40) (.c (.bool false)), none⟩,
 ⟨some 42, .mv (.t 41), none⟩,
 ⟨some 43, .al 1, some (42, true)⟩,
 ⟨some 44, .ia (.t 43) (.c (.int .i64 4)) 4 none (some 1), some (42, true)⟩,
 ⟨some 45, .fa (.t 44) 2 none, some (42, true)⟩,
 ⟨some 46, .ld (.t 45) none false none, some (42, true)⟩,
 ⟨some 47, .bin .eql (.t 46) (.c (.int .i64 13)), some (42, true)⟩,
 ⟨some 48, .pick (.t 42) (.t 47) (.c (.bool false)), none⟩,
 ⟨some 49, .mv (.t 48), none⟩,
 ⟨some 50, .mv (.t 5), some (49, true)⟩,
 ⟨some 51, .bin .eql (.t 50) (.c (.int .i64 5)), some (49, true)⟩,
 ⟨some 52, .pick (.t 49) (.t 51) (.c (.bool false)), none⟩,
 ⟨some 53, .mv (.t 52), none⟩,
 ⟨some 54, .mv (.t 6), some (53, true)⟩,
 ⟨some 55, .bin .eql (.t 54) (.c (.int .i64 1)), some (53, true)⟩,
 ⟨some 56, .pick (.t 53) (.t 55) (.c (.bool false)), none⟩,
 ⟨some 57, .mv (.t 56), none⟩,
 ⟨some 58, .call n_lexer_Keyword [((.c (.str [117, 112, 116, 111])), false)] false, some (57, true)⟩,
 ⟨some 59, .pick (.t 57) (.t 58) (.c (.bool false)), none⟩,
 ⟨some 60, .mv (.t 59), none⟩,
 ⟨some 61, .call n_lexer_Quote [((.c (.str [97, 32, 98])), false)] false, some (60, true)⟩,
 ⟨some 62, .bin .eql (.t 61) (.c (.str [34, 97, 32, 98, 34])), some (60, true)⟩,
 ⟨some 63, .pick (.t 60) (.t 62) (.c (.bool false)), none⟩,
 ⟨some 0, .mv (.t 63), none⟩])
 .ret)))), [.tmp 0]⟩
@[go_sem] def mk_14 : List Bool := [K1,K0,K0,K0,K0,K0,K0,K1,K1,K1,K1,K1,K1,K1]

/- billing/lexer.Scan -/
def lexer_Scan_l1b : AC := (.blk 1 (.seq (.reg [
 ⟨some 14, .mv (.t 5), none⟩,
 ⟨some 15, .call n_lexer_scanner_next [((.t 14), false)] true, none⟩,
 ⟨some 6, .newbox [(.int .i64 0), (.int .i64 0), (.int .i64 0), (.str [])], none⟩,
 ⟨none, .st (.t 6) (.t 15) 4 false (some 6), none⟩])
 (.seq (.reg [
 ⟨some 16, .ld (.t 2) none true none, none⟩,
 ⟨some 17, .ld (.t 6) (some 4) false (some 6), none⟩,
 ⟨some 18, .bsl 4 1 (.agg [(.int .i64 0), (.int .i64 0), (.int .i64 0), (.str [])]) [(0, (.t 17))], none⟩,
 ⟨some 19, .app 4 40 (.t 16) (.t 18) none, none⟩,
 ⟨none, .st (.t 2) (.t 19) 1 true none, none⟩])
 (.seq (.reg [
 ⟨some 20, .fa (.t 6) 0 (some 6), none⟩,
 ⟨some 21, .ld (.t 20) none false (some 6), none⟩,
 ⟨some 22, .bin .eql (.t 21) (.c (.int .i64 0)), none⟩])
 (.cond (.t 22) (.seq (.reg [
 ⟨none, .cmh (.t 2), none⟩,
 ⟨some 23, .ld (.t 2) none false none, none⟩,
 ⟨none, .st (.t 2) (.t 23) 1 false none, none⟩,
 ⟨none, .st (.t 3) (.c (.int .i64 0)) 1 false none, none⟩,
 ⟨none, .st (.t 4) (.c (.int .i64 0)) 1 false none, none⟩])
 .ret)
 .skip)))))
@[go_sem] def mk_15 : List Bool := [K0,K0,K0,K0,K0,K0,K1,K0,K0,K0,K0,K0,K0,K0,K1,K1,K1,K1,K1,K1,K1,K1,K1,K1]
def lexer_Scan_l1 : AC := .pre mk_15 lexer_Scan_l1b
@[go_sem] theorem lexer_Scan_l1_go : LoopRule lexer_Scan_l1 lexer_Scan_l1b mk_15 := loopRule
@[go_sem] theorem lexer_Scan_l1_lp : LpRule lexer_Scan_l1 lexer_Scan_l1b mk_15 := lpRule
def p1_lexer_Scan : AC := (.reg [
 ⟨some 2, .newobj [(.sl true 4 [])], none⟩,
 ⟨some 3, .newobj [(.int .i64 0)], none⟩,
 ⟨some 4, .newobj [(.int .i64 0)], none⟩])
def p2_lexer_Scan : AC := (.seq (.reg [
 ⟨some 7, .mv (.t 0), none⟩,
 ⟨some 8, .len true (.t 7) none, none⟩,
 ⟨some 9, .bin .gtr (.t 8) (.c (.int .i64 65536)), none⟩])
 (.cond (.t 9) (.seq (.reg [
 ⟨none, .st (.t 2) (.c (.sl false 4 [])) 1 false none, none⟩,
 ⟨none, .st (.t 3) (.c (.int .i64 0)) 1 false none, none⟩,
 ⟨none, .st (.t 4) (.c (.int .i64 5)) 1 false none, none⟩])
 .ret)
 .skip))
def b_lexer_Scan : AC := (.seq (.reg [
 ⟨some 11, .mv (.t 0), none⟩,
 ⟨some 12, .build [(.str []), (.int .i64 0)] [(0, 1, (.t 11))], none⟩,
 ⟨some 13, .boxo (.t 12), none⟩,
 ⟨some 5, .mv (.t 13), none⟩])
 (.blk 0 (.pre mk_14 (.loop lexer_Scan_l1))))
@[go_sem] def mk_16 : List Bool := [K0,K0,K1]
@[go_sem] def mk_17 : List Bool := [K0,K0,K0,K0,K0,K1]
@[go_sem] def mk_18 : List Bool := [K0,K0,K0,K0,K0,K0,K0,K0,K0,K0,K1,K1,K1,K1,K1]
@[go_sem] def mk_19 : List Bool := [K0,K0,K1,K1,K1,K0,K1,K1,K1,K1,K1,K1,K1,K1,K1,K1,K1,K1,K1,K1,K1,K1,K1,K1,K1,K1,K1,K1,K1,K1,K1,K1,K1,K1,K1,K1,K1]

/- billing/billingref23.Scan -/
def billingref23_Scan_l1b : AC := (.seq (.seq (.reg [
 ⟨some 15, .mv (.t 6), none⟩,
 ⟨some 16, .mv (.t 0), none⟩,
 ⟨some 17, .len true (.t 16) none, none⟩,
 ⟨some 18, .bin .lss (.t 15) (.t 17), none⟩])
 (.pre mk_16 (.cond (.t 18) .skip
 (.exit 0))))
 (.pre mk_16 (.blk 1 (.seq (.reg [
 ⟨some 20, .mv (.t 0), none⟩,
 ⟨some 21, .mv (.t 6), none⟩,
 ⟨some 22, .call n_billingref23_token [((.t 20), false), ((.t 21), false)] false, none⟩,
 ⟨some 19, .mv (.t 22), none⟩,
 ⟨some 23, .ext 19 0, none⟩,
 ⟨some 24, .ext 19 1, none⟩,
 ⟨some 25, .ext 19 2, none⟩,
 ⟨some 7, .newbox [(.int .i64 0), (.int .i64 0), (.int .i64 0), (.str [])], none⟩,
 ⟨none, .st (.t 7) (.t 23) 4 false (some 7), none⟩,
 ⟨some 8, .mv (.t 24), none⟩,
 ⟨some 9, .mv (.t 25), none⟩])
 (.seq (.seq (.reg [
 ⟨some 26, .mv (.t 9), none⟩,
 ⟨some 27, .bin .neq (.t 26) (.c (.int .i64 0)), none⟩])
 (.cond (.t 27) (.seq (.reg [
 ⟨some 28, .mv (.t 6), none⟩,
 ⟨some 29, .mv (.t 9), none⟩,
 ⟨some 2, .mv (.c (.sl true 4 [])), none⟩,
 ⟨some 3, .mv (.t 28), none⟩,
 ⟨some 4, .mv (.t 29), none⟩])
 (.pre mk_17 .ret))
 .skip))
 (.pre mk_16 (.seq (.reg [
 ⟨some 30, .mv (.t 5), none⟩,
 ⟨some 31, .ld (.t 7) (some 4) false (some 7), none⟩,
 ⟨some 32, .bsl 4 1 (.agg [(.int .i64 0), (.int .i64 0), (.int .i64 0), (.str [])]) [(0, (.t 31))], none⟩,
 ⟨some 33, .app 4 40 (.t 30) (.t 32) none, none⟩,
 ⟨some 5, .mv (.t 33), none⟩])
 (.reg [
 ⟨some 34, .mv (.t 0), none⟩,
 ⟨some 35, .mv (.t 8), none⟩,
 ⟨some 36, .call n_billingref23_Skip [((.t 34), false), ((.t 35), false)] false, none⟩,
 ⟨some 6, .mv (.t 36), none⟩]))))))))
@[go_sem] def mk_20 : List Bool := [K0,K0,K1,K1,K1,K0,K0,K1,K1,K1,K0,K0,K0,K0,K0,K1,K1,K1,K1,K1,K1,K1,K1,K1,K1,K1,K1,K1,K1,K1,K1,K1,K1,K1,K1,K1,K1]
def billingref23_Scan_l1 : AC := .pre mk_20 billingref23_Scan_l1b
@[go_sem] theorem billingref23_Scan_l1_go : LoopRule billingref23_Scan_l1 billingref23_Scan_l1b mk_20 := loopRule
@[go_sem] theorem billingref23_Scan_l1_lp : LpRule billingref23_Scan_l1 billingref23_Scan_l1b mk_20 := lpRule
def billingref23_Scan_k1b : AC := (.seq (.reg [
 ⟨some 37, .mv (.t 5), none⟩,
 ⟨some 38, .mv (.t 0), none⟩,
 ⟨some 39, .len true (.t 38) none, none⟩,
 ⟨some 40, .build [(.int .i64 0), (.int .i64 0), (.int .i64 0), (.str [])] [(0, 1, (.c (.int .i64 0))), (2, 1, (.t 39))], none⟩,
 ⟨some 41, .bsl 4 1 (.agg [(.int .i64 0), (.int .i64 0), (.int .i64 0), (.str [])]) [(0, (.t 40))], none⟩,
 ⟨some 42, .app 4 40 (.t 37) (.t 41) none, none⟩,
 ⟨some 2, .mv (.t 42), none⟩,
 ⟨some 3, .mv (.c (.int .i64 0)), none⟩,
 ⟨some 4, .mv (.c (.int .i64 0)), none⟩])
 (.pre mk_17 .ret))
def billingref23_Scan_k1 : AC := .pre mk_19 billingref23_Scan_k1b
def a_billingref23_Scan : AF := ⟨43, (.seq (.reg [
 ⟨some 2, .mv (.c (.sl true 4 [])), none⟩,
 ⟨some 3, .mv (.c (.int .i64 0)), none⟩,
 ⟨some 4, .mv (.c (.int .i64 0)), none⟩])
 (.pre mk_16 (.seq (.seq (.reg [
 ⟨some 10, .mv (.t 0), none⟩,
 ⟨some 11, .len true (.t 10) none, none⟩,
 ⟨some 12, .bin .gtr (.t 11) (.c (.int .i64 65536)), none⟩])
 (.cond (.t 12) (.seq (.reg [
 ⟨some 2, .mv (.c (.sl true 4 [])), none⟩,
 ⟨some 3, .mv (.c (.int .i64 0)), none⟩,
 ⟨some 4, .mv (.c (.int .i64 5)), none⟩])
 .ret)
 .skip))
 (.pre mk_16 (.seq (.reg [
 ⟨some 5, .mv (.c (.sl true 4 [])), none⟩])
 (.seq (.reg [
 ⟨some 13, .mv (.t 0), none⟩,
 ⟨some 14, .call n_billingref23_Skip [((.t 13), false), ((.c (.int .i64 0)), false)] false, none⟩,
 ⟨some 6, .mv (.t 14), none⟩])
 (.seq (.blk 0 (.pre mk_18 (.loop billingref23_Scan_l1)))
 billingref23_Scan_k1))))))), [.tmp 2, .tmp 3, .tmp 4]⟩
@[go_sem] def mk_21 : List Bool := [K0,K0,K0,K0,K0,K0,K1,K1,K1,K1,K1]
@[go_sem] def mk_22 : List Bool := [K1,K1,K0,K0,K1,K1,K1,K1,K1,K1,K1,K1,K1,K1,K1,K1,K1,K1,K1,K1,K1,K1,K1,K1,K1,K1]

/- billing/billingref23.Same -/
def billingref23_Same_l1b : AC := (.seq (.seq (.reg [
 ⟨some 11, .mv (.t 5), none⟩,
 ⟨some 12, .cp (.t 0), none⟩,
 ⟨some 13, .len false (.t 12) (some 0), none⟩,
 ⟨some 14, .bin .lss (.t 11) (.t 13), none⟩])
 (.cond (.t 14) .skip
 (.exit 0)))
 (.seq (.blk 1 (.seq (.dreg [
 ⟨some 17, .cp (.t 0), none⟩,
 ⟨some 18, .cp (.t 5), none⟩,
 ⟨some 19, .ia (.t 17) (.t 18) 4 none (some 0), none⟩,
 ⟨some 20, .ld (.t 19) (some 4) false none, none⟩,
 ⟨some 21, .cp (.t 1), none⟩,
 ⟨some 22, .cp (.t 5), none⟩,
 ⟨some 23, .ia (.t 21) (.t 22) 4 none (some 1), none⟩,
 ⟨some 24, .ld (.t 23) (some 4) false none, none⟩,
 ⟨some 25, .eqs true [0, 0, 0, 2] (.t 20) (.t 24), none⟩])
 (.cond (.t 25) (.seq (.reg [
 ⟨some 4, .mv (.c (.bool false)), none⟩])
 .ret)
 .skip)))
 (.reg [
 ⟨some 15, .mv (.t 5), none⟩,
 ⟨some 16, .bin .add (.t 15) (.c (.int .i64 1)), none⟩,
 ⟨some 5, .mv (.t 16), none⟩])))
@[go_sem] def mk_23 : List Bool := [K0,K0,K0,K0,K1,K0,K0,K0,K0,K0,K0,K1,K1,K1,K1,K1,K1,K1,K1,K1,K1,K1,K1,K1,K1,K1]
def billingref23_Same_l1 : AC := .pre mk_23 billingref23_Same_l1b
@[go_sem] theorem billingref23_Same_l1_go : LoopRule billingref23_Same_l1 billingref23_Same_l1b mk_23 := loopRule
@[go_sem] theorem billingref23_Same_l1_lp : LpRule billingref23_Same_l1 billingref23_Same_l1b mk_23 := lpRule
def billingref23_Same_k1b : AC := (.seq (.reg [
 ⟨some 4, .mv (.c (.bool true)), none⟩])
 .ret)
def billingref23_Same_k1 : AC := .pre mk_22 billingref23_Same_k1b
def a_billingref23_Same : AF := ⟨26, (.seq (.reg [
 ⟨some 4, .mv (.c (.bool false)), none⟩])
 (.seq (.seq (.reg [
 ⟨some 6, .cp (.t 0), none⟩,
 ⟨some 7, .len false (.t 6) (some 0), none⟩,
 ⟨some 8, .cp (.t 1), none⟩,
 ⟨some 9, .len false (.t 8) (some 1), none⟩,
 ⟨some 10, .bin .neq (.t 7) (.t 9), none⟩])
 (.cond (.t 10) (.seq (.reg [
 ⟨some 4, .mv (.c (.bool false)), none⟩])
 .ret)
 .skip))
 (.seq (.seq (.reg [
 ⟨some 5, .mv (.c (.int .i64 0)), none⟩])
 (.blk 0 (.pre mk_21 (.loop billingref23_Same_l1))))
 billingref23_Same_k1))), [.tmp 4]⟩

/- billing/billingref23.Proper -/
def a_billingref23_Proper : AF := ⟨45, (.seq (.reg [
 ⟨some 1, .boxr (.t 0), none⟩,
 ⟨some 2, .mv (.c (.bool false)), none⟩])
 (.seq (.reg [
 ⟨some 7, .fa (.t 1) 3 none, none⟩,
 ⟨some 8, .ld (.t 7) none false none, none⟩,
 ⟨some 3, .mv (.t 8), none⟩])
 (.seq (.reg [
 ⟨some 10, .ld (.t 1) (some 4) false none, none⟩,
 ⟨some 11, .call n_billingref23_Source [((.t 10), false)] false, none⟩,
 ⟨some 12, .call n_billingref23_Scan [((.t 11), false)] false, none⟩,
 ⟨some 9, .mv (.t 12), none⟩,
 ⟨some 13, .ext 9 0, none⟩,
 ⟨none, .cm 13, none⟩,
 ⟨some 14, .ext 9 1, none⟩,
 ⟨some 15, .ext 9 2, none⟩,
 ⟨some 4, .mv (.t 13), none⟩,
 ⟨none, .cm 4, none⟩,
 ⟨some 5, .mv (.t 14), none⟩,
 ⟨some 6, .mv (.t 15), none⟩])
 (.seq (.dreg [
 ⟨some 16, .cp (.t 6), none⟩,
 ⟨some 17, .bin .eql (.t 16) (.c (.int .i64 0)), none⟩,
 ⟨some 18, .cp (.t 17), none⟩,
 ⟨some 19, .cp (.t 3), some (18, true)⟩,
 ⟨some 20, .len true (.t 19) none, some (18, true)⟩,
 ⟨some 21, .bin .leq (.t 20) (.c (.int .i64 200)), some (18, true)⟩,
 ⟨some 22, .pick (.t 18) (.t 21) (.c (.bool false)), none⟩,
 ⟨some 23, .cp (.t 22), none⟩,
 ⟨some 24, .al 4, some (23, true)⟩,
 ⟨some 25, .len false (.t 24) (some 4), some (23, true)⟩,
 ⟨some 26, .bin .eql (.t 25) (.c (.int .i64 2)), some (23, true)⟩,
 ⟨some 27, .pick (.t 23) (.t 26) (.c (.bool false)), none⟩,
 ⟨some 28, .cp (.t 27), none⟩,
 ⟨some 29, .al 4, some (28, true)⟩,
 ⟨some 30, .ia (.t 29) (.c (.int .i64 0)) 4 none (some 4), some (28, true)⟩,
 ⟨some 31, .fa (.t 30) 0 none, some (28, true)⟩,
 ⟨some 32, .ld (.t 31) none false none, some (28, true)⟩,
 ⟨some 33, .fa (.t 1) 0 none, some (28, true)⟩,
 ⟨some 34, .ld (.t 33) none false none, some (28, true)⟩,
 ⟨some 35, .bin .eql (.t 32) (.t 34), some (28, true)⟩,
 ⟨some 36, .pick (.t 28) (.t 35) (.c (.bool false)), none⟩,
 ⟨some 37, .cp (.t 36), none⟩,
 ⟨some 38, .al 4, some (37, true)⟩,
 ⟨some 39, .ia (.t 38) (.c (.int .i64 0)) 4 none (some 4), some (37, true)⟩,
 ⟨some 40, .fa (.t 39) 3 none, some (37, true)⟩,
 ⟨some 41, .ld (.t 40) none false none, some (37, true)⟩,
 ⟨some 42, .cp (.t 3), some (37, true)⟩,
 ⟨some 43, .bin .eql (.t 41) (.t 42), some (37, true)⟩,
 ⟨some 44, .pick (.t 37) (.t 43) (.c (.bool false)), none⟩,
 ⟨some 2, .cp (.t 44), none⟩])
 .ret)))), [.tmp 2]⟩
@[go_sem] def mk_24 : List Bool := [K1,K0,K1,K0,K1,K1,K1,K1,K1,K1,K1,K1,K1,K1,K1,K1,K1,K1,K1,K1,K1,K1,K1]

/- billing/billingref23.Value -/
def billingref23_Value_l1b : AC := (.seq (.seq (.reg [
 ⟨some 5, .mv (.t 4), none⟩,
 ⟨some 6, .mv (.t 0), none⟩,
 ⟨some 7, .len true (.t 6) none, none⟩,
 ⟨some 8, .bin .lss (.t 5) (.t 7), none⟩,
 ⟨some 9, .mv (.t 8), none⟩,
 ⟨some 10, .mv (.t 4), some (9, true)⟩,
 ⟨some 11, .bin .lss (.t 10) (.c (.int .i64 16)), some (9, true)⟩,
 ⟨some 12, .pick (.t 9) (.t 11) (.c (.bool false)), none⟩])
 (.cond (.t 12) .skip
 (.exit 0)))
 (.seq (.blk 1 (.reg [
 ⟨some 15, .mv (.t 3), none⟩,
 ⟨some 16, .bin .mul (.c (.int .i64 10)) (.t 15), none⟩,
 ⟨some 17, .mv (.t 0), none⟩,
 ⟨some 18, .mv (.t 4), none⟩,
 ⟨some 19, .idx (.t 17) (.t 18) none 1 false, none⟩,
 ⟨some 20, .bin .sub (.t 19) (.c (.int .u8 48)), none⟩,
 ⟨some 21, .cvi .i64 (.t 20), none⟩,
 ⟨some 22, .bin .add (.t 16) (.t 21), none⟩,
 ⟨some 3, .mv (.t 22), none⟩]))
 (.reg [
 ⟨some 13, .mv (.t 4), none⟩,
 ⟨some 14, .bin .add (.t 13) (.c (.int .i64 1)), none⟩,
 ⟨some 4, .mv (.t 14), none⟩])))
@[go_sem] def mk_25 : List Bool := [K0,K0,K0,K0,K0,K1,K1,K1,K1,K1,K1,K1,K1,K1,K1,K1,K1,K1,K1,K1,K1,K1,K1]
def billingref23_Value_l1 : AC := .pre mk_25 billingref23_Value_l1b
@[go_sem] theorem billingref23_Value_l1_go : LoopRule billingref23_Value_l1 billingref23_Value_l1b mk_25 := loopRule
@[go_sem] theorem billingref23_Value_l1_lp : LpRule billingref23_Value_l1 billingref23_Value_l1b mk_25 := lpRule
def billingref23_Value_k1b : AC := (.seq (.reg [
 ⟨some 23, .mv (.t 3), none⟩,
 ⟨some 2, .mv (.t 23), none⟩])
 .ret)
def billingref23_Value_k1 : AC := .pre mk_24 billingref23_Value_k1b
def a_billingref23_Value : AF := ⟨24, (.seq (.reg [
 ⟨some 2, .mv (.c (.int .i64 0)), none⟩])
 (.seq (.reg [
 ⟨some 3, .mv (.c (.int .i64 0)), none⟩])
 (.seq (.seq (.reg [
 ⟨some 4, .mv (.c (.int .i64 0)), none⟩])
 (.blk 0 (.pre mk_16 (.loop billingref23_Value_l1))))
 billingref23_Value_k1))), [.tmp 2]⟩

/- billing/billingref23.Source -/
def a_billingref23_Source : AF := ⟨12, (.seq (.reg [
 ⟨some 1, .boxr (.t 0), none⟩,
 ⟨some 2, .mv (.c (.str [])), none⟩])
 (.seq (.seq (.reg [
 ⟨some 3, .fa (.t 1) 0 none, none⟩,
 ⟨some 4, .ld (.t 3) none false none, none⟩,
 ⟨some 5, .bin .eql (.t 4) (.c (.int .i64 3)), none⟩])
 (.cond (.t 5) (.seq (.reg [
 ⟨some 6, .fa (.t 1) 3 none, none⟩,
 ⟨some 7, .ld (.t 6) none false none, none⟩,
 ⟨some 8, .bin .add (.c (.str [34])) (.t 7), none⟩,
 ⟨some 9, .bin .add (.t 8) (.c (.str [34])), none⟩,
 ⟨some 2, .mv (.t 9), none⟩])
 .ret)
 .skip))
 (.seq (.reg [
 ⟨some 10, .fa (.t 1) 3 none, none⟩,
 ⟨some 11, .ld (.t 10) none false none, none⟩,
 ⟨some 2, .mv (.t 11), none⟩])
 .ret))), [.tmp 2]⟩
@[go_sem] def mk_26 : List Bool := [K0,K0,K0,K0,K1,K1,K1,K1,K1,K1,K1,K1,K1,K0,K0,K0,K0,K0,K0,K0,K0,K0,K0,K0,K0,K1,K1,K1,K1,K1,K1,K1,K1,K1,K1,K1,K1,K1,K1,K1,K1,K1,K1,K1]
@[go_sem] def mk_27 : List Bool := [K0,K0,K0,K0,K1,K1,K1,K1,K1,K1,K1,K1,K1,K1,K1,K1,K1,K1,K1,K1,K1,K1,K1,K1,K1,K1,K1,K1,K1,K1,K1,K1,K1,K1,K1,K1,K1,K1,K1,K1,K1,K1,K1,K1]
@[go_sem] def mk_28 : List Bool := [K1,K0,K0,K0,K1,K1,K1,K1,K1,K1,K1,K1,K1,K1,K1,K1,K1,K1,K1,K1,K1,K1,K1,K1,K1,K1,K1,K1,K1,K1,K1,K1,K1,K1,K1,K1,K1,K1,K1,K1,K1,K1,K1,K1]

/- billing/billingref23.Skip -/
def billingref23_Skip_l1b : AC := (.seq (.seq (.reg [
 ⟨some 13, .mv (.t 1), none⟩,
 ⟨some 14, .mv (.t 0), none⟩,
 ⟨some 15, .len true (.t 14) none, none⟩,
 ⟨some 16, .bin .lss (.t 13) (.t 15), none⟩,
 ⟨some 17, .mv (.t 16), none⟩,
 ⟨some 18, .mv (.t 0), some (17, true)⟩,
 ⟨some 19, .mv (.t 1), some (17, true)⟩,
 ⟨some 20, .idx (.t 18) (.t 19) none 1 false, some (17, true)⟩,
 ⟨some 21, .bin .neq (.t 20) (.c (.int .u8 10)), some (17, true)⟩,
 ⟨some 22, .pick (.t 17) (.t 21) (.c (.bool false)), none⟩])
 (.cond (.t 22) .skip
 (.exit 2)))
 (.blk 3 (.reg [
 ⟨some 23, .mv (.t 1), none⟩,
 ⟨some 24, .bin .add (.t 23) (.c (.int .i64 1)), none⟩,
 ⟨some 1, .mv (.t 24), none⟩])))
@[go_sem] def mk_29 : List Bool := [K0,K0,K0,K0,K0,K0,K0,K0,K0,K0,K0,K0,K0,K1,K1,K1,K1,K1,K1,K1,K1,K1,K1,K1,K1]
def billingref23_Skip_l1 : AC := .pre mk_29 billingref23_Skip_l1b
@[go_sem] theorem billingref23_Skip_l1_go : LoopRule billingref23_Skip_l1 billingref23_Skip_l1b mk_29 := loopRule
@[go_sem] theorem billingref23_Skip_l1_lp : LpRule billingref23_Skip_l1 billingref23_Skip_l1b mk_29 := lpRule
def billingref23_Skip_k1b : AC := (.exit 1)
def billingref23_Skip_k1 : AC := .pre mk_27 billingref23_Skip_k1b
def billingref23_Skip_k2b : AC := (.seq (.seq (.reg [
 ⟨some 25, .mv (.t 0), none⟩,
 ⟨some 26, .mv (.t 1), none⟩,
 ⟨some 27, .idx (.t 25) (.t 26) none 1 false, none⟩,
 ⟨some 28, .bin .neq (.t 27) (.c (.int .u8 32)), none⟩,
 ⟨some 29, .mv (.t 28), none⟩,
 ⟨some 30, .mv (.t 0), some (29, true)⟩,
 ⟨some 31, .mv (.t 1), some (29, true)⟩,
 ⟨some 32, .idx (.t 30) (.t 31) none 1 false, some (29, true)⟩,
 ⟨some 33, .bin .neq (.t 32) (.c (.int .u8 9)), some (29, true)⟩,
 ⟨some 34, .pick (.t 29) (.t 33) (.c (.bool false)), none⟩,
 ⟨some 35, .mv (.t 34), none⟩,
 ⟨some 36, .mv (.t 0), some (35, true)⟩,
 ⟨some 37, .mv (.t 1), some (35, true)⟩,
 ⟨some 38, .idx (.t 36) (.t 37) none 1 false, some (35, true)⟩,
 ⟨some 39, .bin .neq (.t 38) (.c (.int .u8 10)), some (35, true)⟩,
 ⟨some 40, .pick (.t 35) (.t 39) (.c (.bool false)), none⟩])
 (.cond (.t 40) (.seq (.reg [
 ⟨some 41, .mv (.t 1), none⟩,
 ⟨some 4, .mv (.t 41), none⟩])
 .ret)
 .skip))
 (.reg [
 ⟨some 42, .mv (.t 1), none⟩,
 ⟨some 43, .bin .add (.t 42) (.c (.int .i64 1)), none⟩,
 ⟨some 1, .mv (.t 43), none⟩]))
def billingref23_Skip_k2 : AC := .pre mk_27 billingref23_Skip_k2b
def billingref23_Skip_l2b : AC := (.seq (.seq (.reg [
 ⟨some 5, .mv (.t 1), none⟩,
 ⟨some 6, .mv (.t 0), none⟩,
 ⟨some 7, .len true (.t 6) none, none⟩,
 ⟨some 8, .bin .lss (.t 5) (.t 7), none⟩])
 (.cond (.t 8) .skip
 (.exit 0)))
 (.blk 1 (.seq (.seq (.reg [
 ⟨some 9, .mv (.t 0), none⟩,
 ⟨some 10, .mv (.t 1), none⟩,
 ⟨some 11, .idx (.t 9) (.t 10) none 1 false, none⟩,
 ⟨some 12, .bin .eql (.t 11) (.c (.int .u8 35)), none⟩])
 (.cond (.t 12) (.seq (.blk 2 (.pre mk_26 (.loop billingref23_Skip_l1)))
 billingref23_Skip_k1)
 .skip))
 billingref23_Skip_k2)))
def billingref23_Skip_l2 : AC := .pre mk_27 billingref23_Skip_l2b
@[go_sem] theorem billingref23_Skip_l2_go : LoopRule billingref23_Skip_l2 billingref23_Skip_l2b mk_27 := loopRule
@[go_sem] theorem billingref23_Skip_l2_lp : LpRule billingref23_Skip_l2 billingref23_Skip_l2b mk_27 := lpRule
def billingref23_Skip_k3b : AC := (.seq (.reg [
 ⟨some 44, .mv (.t 1), none⟩,
 ⟨some 4, .mv (.t 44), none⟩])
 .ret)
def billingref23_Skip_k3 : AC := .pre mk_28 billingref23_Skip_k3b
def a_billingref23_Skip : AF := ⟨45, (.seq (.reg [
 ⟨some 4, .mv (.c (.int .i64 0)), none⟩])
 (.seq (.blk 0 (.loop billingref23_Skip_l2))
 billingref23_Skip_k3)), [.tmp 4]⟩
@[go_sem] def mk_30 : List Bool := [K0,K0,K0,K0,K1,K1,K1]
@[go_sem] def mk_31 : List Bool := [K0,K0,K1,K1,K1,K1,K1,K1,K1,K1,K1,K1,K1,K1,K1,K1,K1,K1,K1,K1,K1,K1,K1,K1,K1,K1,K1,K1,K1]

/- billing/lexer.Quote -/
def lexer_Quote_l1b : AC := (.seq (.seq (.reg [
 ⟨some 7, .mv (.t 3), none⟩,
 ⟨some 8, .mv (.t 0), none⟩,
 ⟨some 9, .len true (.t 8) none, none⟩,
 ⟨some 10, .bin .lss (.t 7) (.t 9), none⟩])
 (.cond (.t 10) .skip
 (.exit 0)))
 (.seq (.blk 1 (.seq (.reg [
 ⟨some 13, .mv (.t 0), none⟩,
 ⟨some 14, .mv (.t 3), none⟩,
 ⟨some 15, .idx (.t 13) (.t 14) none 1 false, none⟩,
 ⟨some 16, .bin .lss (.t 15) (.c (.int .u8 32)), none⟩,
 ⟨some 17, .mv (.t 16), none⟩,
 ⟨some 18, .mv (.t 0), some (17, false)⟩,
 ⟨some 19, .mv (.t 3), some (17, false)⟩,
 ⟨some 20, .idx (.t 18) (.t 19) none 1 false, some (17, false)⟩,
 ⟨some 21, .bin .gtr (.t 20) (.c (.int .u8 126)), some (17, false)⟩,
 ⟨some 22, .pick (.t 17) (.c (.bool true)) (.t 21), none⟩,
 ⟨some 23, .mv (.t 22), none⟩,
 ⟨some 24, .mv (.t 0), some (23, false)⟩,
 ⟨some 25, .mv (.t 3), some (23, false)⟩,
 ⟨some 26, .idx (.t 24) (.t 25) none 1 false, some (23, false)⟩,
 ⟨some 27, .bin .eql (.t 26) (.c (.int .u8 34)), some (23, false)⟩,
 ⟨some 28, .pick (.t 23) (.c (.bool true)) (.t 27), none⟩])
 (.cond (.t 28) (.seq (.reg [
 ⟨some 2, .mv (.c (.str [])), none⟩])
 .ret)
 .skip)))
 (.reg [
 ⟨some 11, .mv (.t 3), none⟩,
 ⟨some 12, .bin .add (.t 11) (.c (.int .i64 1)), none⟩,
 ⟨some 3, .mv (.t 12), none⟩])))
@[go_sem] def mk_32 : List Bool := [K0,K0,K1,K0,K0,K0,K0,K1,K1,K1,K1,K1,K1,K1,K1,K1,K1,K1,K1,K1,K1,K1,K1,K1,K1,K1,K1,K1,K1]
def lexer_Quote_l1 : AC := .pre mk_32 lexer_Quote_l1b
@[go_sem] theorem lexer_Quote_l1_go : LoopRule lexer_Quote_l1 lexer_Quote_l1b mk_32 := loopRule
@[go_sem] theorem lexer_Quote_l1_lp : LpRule lexer_Quote_l1 lexer_Quote_l1b mk_32 := lpRule
def lexer_Quote_k1b : AC := (.seq (.reg [
 ⟨some 29, .mv (.t 0), none⟩,
 ⟨some 30, .bin .add (.c (.str [34])) (.t 29), none⟩,
 ⟨some 31, .bin .add (.t 30) (.c (.str [34])), none⟩,
 ⟨some 2, .mv (.t 31), none⟩])
 .ret)
def lexer_Quote_k1 : AC := .pre mk_31 lexer_Quote_k1b
def a_lexer_Quote : AF := ⟨32, (.seq (.reg [
 ⟨some 2, .mv (.c (.str [])), none⟩])
 (.seq (.seq (.reg [
 ⟨some 4, .mv (.t 0), none⟩,
 ⟨some 5, .len true (.t 4) none, none⟩,
 ⟨some 6, .bin .gtr (.t 5) (.c (.int .i64 200)), none⟩])
 (.cond (.t 6) (.seq (.reg [
 ⟨some 2, .mv (.c (.str [])), none⟩])
 .ret)
 .skip))
 (.seq (.seq (.reg [
 ⟨some 3, .mv (.c (.int .i64 0)), none⟩])
 (.blk 0 (.pre mk_30 (.loop lexer_Quote_l1))))
 lexer_Quote_k1))), [.tmp 2]⟩

/- billing/lexer.Keyword -/
def a_lexer_Keyword : AF := ⟨48, (.seq (.reg [
 ⟨some 2, .mv (.c (.bool false)), none⟩])
 (.seq (.seq (.reg [
 ⟨some 3, .mv (.t 0), none⟩])
 (.blk 0 (.seq (.seq (.reg [
 ⟨some 5, .bin .eql (.t 3) (.c (.str [116, 97, 114, 105, 102, 102])), none⟩,
 ⟨some 4, .mv (.t 5), none⟩])
 (.cond (.t 4) .skip
 (.seq (.reg [
 ⟨some 6, .bin .eql (.t 3) (.c (.str [102, 114, 111, 109])), none⟩,
 ⟨some 4, .mv (.t 6), none⟩])
 (.cond (.t 4) .skip
 (.seq (.reg [
 ⟨some 7, .bin .eql (.t 3) (.c (.str [115, 112, 108, 105, 116])), none⟩,
 ⟨some 4, .mv (.t 7), none⟩])
 (.cond (.t 4) .skip
 (.seq (.reg [
 ⟨some 8, .bin .eql (.t 3) (.c (.str [122, 111, 110, 101])), none⟩,
 ⟨some 4, .mv (.t 8), none⟩])
 (.cond (.t 4) .skip
 (.seq (.reg [
 ⟨some 9, .bin .eql (.t 3) (.c (.str [98, 97, 110, 100])), none⟩,
 ⟨some 4, .mv (.t 9), none⟩])
 (.cond (.t 4) .skip
 (.seq (.reg [
 ⟨some 10, .bin .eql (.t 3) (.c (.str [111, 116, 104, 101, 114, 119, 105, 115, 101])), none⟩,
 ⟨some 4, .mv (.t 10), none⟩])
 (.cond (.t 4) .skip
 (.seq (.reg [
 ⟨some 11, .bin .eql (.t 3) (.c (.str [114, 97, 116, 101])), none⟩,
 ⟨some 4, .mv (.t 11), none⟩])
 (.cond (.t 4) .skip
 (.seq (.reg [
 ⟨some 12, .bin .eql (.t 3) (.c (.str [116, 111])), none⟩,
 ⟨some 4, .mv (.t 12), none⟩])
 (.cond (.t 4) .skip
 (.seq (.reg [
 ⟨some 13, .bin .eql (.t 3) (.c (.str [97, 110, 121])), none⟩,
 ⟨some 4, .mv (.t 13), none⟩])
 (.cond (.t 4) .skip
 (.seq (.reg [
 ⟨some 14, .bin .eql (.t 3) (.c (.str [105, 110])), none⟩,
 ⟨some 4, .mv (.t 14), none⟩])
 (.cond (.t 4) .skip
 (.seq (.reg [
 ⟨some 15, .bin .eql (.t 3) (.c (.str [115, 101, 116, 117, 112])), none⟩,
 ⟨some 4, .mv (.t 15), none⟩])
 (.cond (.t 4) .skip
 (.seq (.reg [
 ⟨some 16, .bin .eql (.t 3) (.c (.str [117, 112, 116, 111])), none⟩,
 ⟨some 4, .mv (.t 16), none⟩])
 (.cond (.t 4) .skip
 (.seq (.reg [
 ⟨some 17, .bin .eql (.t 3) (.c (.str [112, 101, 114])), none⟩,
 ⟨some 4, .mv (.t 17), none⟩])
 (.cond (.t 4) .skip
 (.reg [
 ⟨some 18, .bin .eql (.t 3) (.c (.str [97, 116])), none⟩,
 ⟨some 4, .mv (.t 18), none⟩])))))))))))))))))))))))))))
 (.cond (.t 4) (.seq (.reg [
 ⟨some 2, .mv (.c (.bool true)), none⟩])
 .ret)
 (.seq (.seq (.reg [
 ⟨some 20, .bin .eql (.t 3) (.c (.str [100, 105, 115, 99, 111, 117, 110, 116])), none⟩,
 ⟨some 19, .mv (.t 20), none⟩])
 (.cond (.t 19) .skip
 (.seq (.reg [
 ⟨some 21, .bin .eql (.t 3) (.c (.str [112, 111, 105, 110, 116, 115])), none⟩,
 ⟨some 19, .mv (.t 21), none⟩])
 (.cond (.t 19) .skip
 (.seq (.reg [
 ⟨some 22, .bin .eql (.t 3) (.c (.str [119, 104, 101, 110])), none⟩,
 ⟨some 19, .mv (.t 22), none⟩])
 (.cond (.t 19) .skip
 (.seq (.reg [
 ⟨some 23, .bin .eql (.t 3) (.c (.str [97, 110, 100])), none⟩,
 ⟨some 19, .mv (.t 23), none⟩])
 (.cond (.t 19) .skip
 (.seq (.reg [
 ⟨some 24, .bin .eql (.t 3) (.c (.str [111, 114])), none⟩,
 ⟨some 19, .mv (.t 24), none⟩])
 (.cond (.t 19) .skip
 (.reg [
 ⟨some 25, .bin .eql (.t 3) (.c (.str [110, 111, 116])), none⟩,
 ⟨some 19, .mv (.t 25), none⟩])))))))))))
 (.cond (.t 19) (.seq (.reg [
 ⟨some 2, .mv (.c (.bool true)), none⟩])
 .ret)
 (.seq (.seq (.reg [
 ⟨some 27, .bin .eql (.t 3) (.c (.str [109, 111, 110])), none⟩,
 ⟨some 26, .mv (.t 27), none⟩])
 (.cond (.t 26) .skip
 (.seq (.reg [
 ⟨some 28, .bin .eql (.t 3) (.c (.str [116, 117, 101])), none⟩,
 ⟨some 26, .mv (.t 28), none⟩])
 (.cond (.t 26) .skip
 (.seq (.reg [
 ⟨some 29, .bin .eql (.t 3) (.c (.str [119, 101, 100])), none⟩,
 ⟨some 26, .mv (.t 29), none⟩])
 (.cond (.t 26) .skip
 (.seq (.reg [
 ⟨some 30, .bin .eql (.t 3) (.c (.str [116, 104, 117])), none⟩,
 ⟨some 26, .mv (.t 30), none⟩])
 (.cond (.t 26) .skip
 (.seq (.reg [
 ⟨some 31, .bin .eql (.t 3) (.c (.str [102, 114, 105])), none⟩,
 ⟨some 26, .mv (.t 31), none⟩])
 (.cond (.t 26) .skip
 (.seq (.reg [
 ⟨some 32, .bin .eql (.t 3) (.c (.str [115, 97, 116])), none⟩,
 ⟨some 26, .mv (.t 32), none⟩])
 (.cond (.t 26) .skip
 (.seq (.reg [
 ⟨some 33, .bin .eql (.t 3) (.c (.str [115, 117, 110])), none⟩,
 ⟨some 26, .mv (.t 33), none⟩])
 (.cond (.t 26) .skip
 (.reg [
 ⟨some 34, .bin .eql (.t 3) (.c (.str [104, 111, 108, 105, 100, 97, 121])), none⟩,
 ⟨some 26, .mv (.t 34), none⟩])))))))))))))))
 (.cond (.t 26) (.seq (.reg [
 ⟨some 2, .mv (.c (.bool true)), none⟩])
 .ret)
 (.seq (.seq (.reg [
 ⟨some 36, .bin .eql (.t 3) (.c (.str [118, 111, 105, 99, 101])), none⟩,
 ⟨some 35, .mv (.t 36), none⟩])
 (.cond (.t 35) .skip
 (.seq (.reg [
 ⟨some 37, .bin .eql (.t 3) (.c (.str [116, 101, 120, 116])), none⟩,
 ⟨some 35, .mv (.t 37), none⟩])
 (.cond (.t 35) .skip
 (.seq (.reg [
 ⟨some 38, .bin .eql (.t 3) (.c (.str [100, 97, 116, 97])), none⟩,
 ⟨some 35, .mv (.t 38), none⟩])
 (.cond (.t 35) .skip
 (.reg [
 ⟨some 39, .bin .eql (.t 3) (.c (.str [99, 111, 110, 116, 101, 110, 116])), none⟩,
 ⟨some 35, .mv (.t 39), none⟩])))))))
 (.cond (.t 35) (.seq (.reg [
 ⟨some 2, .mv (.c (.bool true)), none⟩])
 .ret)
 (.seq (.seq (.reg [
 ⟨some 41, .bin .eql (.t 3) (.c (.str [107, 105, 110, 100])), none⟩,
 ⟨some 40, .mv (.t 41), none⟩])
 (.cond (.t 40) .skip
 (.seq (.reg [
 ⟨some 42, .bin .eql (.t 3) (.c (.str [117, 110, 105, 116, 115])), none⟩,
 ⟨some 40, .mv (.t 42), none⟩])
 (.cond (.t 40) .skip
 (.seq (.reg [
 ⟨some 43, .bin .eql (.t 3) (.c (.str [119, 101, 101, 107, 100, 97, 121])), none⟩,
 ⟨some 40, .mv (.t 43), none⟩])
 (.cond (.t 40) .skip
 (.seq (.reg [
 ⟨some 44, .bin .eql (.t 3) (.c (.str [109, 105, 110, 117, 116, 101])), none⟩,
 ⟨some 40, .mv (.t 44), none⟩])
 (.cond (.t 40) .skip
 (.seq (.reg [
 ⟨some 45, .bin .eql (.t 3) (.c (.str [116, 111, 116, 97, 108])), none⟩,
 ⟨some 40, .mv (.t 45), none⟩])
 (.cond (.t 40) .skip
 (.seq (.reg [
 ⟨some 46, .bin .eql (.t 3) (.c (.str [115, 112, 101, 110, 116])), none⟩,
 ⟨some 40, .mv (.t 46), none⟩])
 (.cond (.t 40) .skip
 (.reg [
 ⟨some 47, .bin .eql (.t 3) (.c (.str [102, 97, 109, 105, 108, 121])), none⟩,
 ⟨some 40, .mv (.t 47), none⟩])))))))))))))
 (.cond (.t 40) (.seq (.reg [
 ⟨some 2, .mv (.c (.bool true)), none⟩])
 .ret)
 .skip))))))))))))
 (.seq (.reg [
 ⟨some 2, .mv (.c (.bool false)), none⟩])
 .ret))), [.tmp 2]⟩

/- billing/billingref23.Keyword -/
def a_billingref23_Keyword : AF := ⟨6, (.seq (.reg [
 ⟨some 2, .mv (.c (.bool false)), none⟩])
 (.seq (.reg [
 ⟨some 3, .bsl 1 39 (.str []) [(0, (.c (.str [116, 97, 114, 105, 102, 102]))), (1, (.c (.str [102, 114, 111, 109]))), (2, (.c (.str [115, 112, 108, 105, 116]))), (3, (.c (.str [122, 111, 110, 101]))), (4, (.c (.str [98, 97, 110, 100]))), (5, (.c (.str [111, 116, 104, 101, 114, 119, 105, 115, 101]))), (6, (.c (.str [114, 97, 116, 101]))), (7, (.c (.str [116, 111]))), (8, (.c (.str [97, 110, 121]))), (9, (.c (.str [105, 110]))), (10, (.c (.str [115, 101, 116, 117, 112]))), (11, (.c (.str [117, 112, 116, 111]))), (12, (.c (.str [112, 101, 114]))), (13, (.c (.str [97, 116]))), (14, (.c (.str [100, 105, 115, 99, 111, 117, 110, 116]))), (15, (.c (.str [112, 111, 105, 110, 116, 115]))), (16, (.c (.str [119, 104, 101, 110]))), (17, (.c (.str [97, 110, 100]))), (18, (.c (.str [111, 114]))), (19, (.c (.str [110, 111, 116]))), (20, (.c (.str [109, 111, 110]))), (21, (.c (.str [116, 117, 101]))), (22, (.c (.str [119, 101, 100]))), (23, (.c (.str [116, 104, 117]))), (24, (.c (.str [102, 114, 105]))), (25, (.c (.str [115, 97, 116]))), (26, (.c (.str [115, 117, 110]))), (27, (.c (.str [104, 111, 108, 105, 100, 97, 121]))), (28, (.c (.str [118, 111, 105, 99, 101]))), (29, (.c (.str [116, 101, 120, 116]))), (30, (.c (.str [100, 97, 116, 97]))), (31, (.c (.str [99, 111, 110, 116, 101, 110, 116]))), (32, (.c (.str [107, 105, 110, 100]))), (33, (.c (.str [117, 110, 105, 116, 115]))), (34, (.c (.str [119, 101, 101, 107, 100, 97, 121]))), (35, (.c (.str [109, 105, 110, 117, 116, 101]))), (36, (.c (.str [116, 111, 116, 97, 108]))), (37, (.c (.str [115, 112, 101, 110, 116]))), (38, (.c (.str [102, 97, 109, 105, 108, 121])))], none⟩,
 ⟨some 4, .mv (.t 0), none⟩,
 ⟨none, .cm 3, none⟩,
 ⟨some 5, .call n_billingref23_Has [((.t 3), false), ((.t 4), false)] false, none⟩,
 ⟨some 2, .mv (.t 5), none⟩])
 .ret)), [.tmp 2]⟩
@[go_sem] def mk_33 : List Bool := [K0,K0,K1,K1,K1,K1,K1,K1,K1,K1,K1,K1,K1,K1,K1]

/- billing/billingref23.Quote -/
def billingref23_Quote_l1b : AC := (.seq (.seq (.reg [
 ⟨some 4, .mv (.t 3), none⟩,
 ⟨some 5, .mv (.t 0), none⟩,
 ⟨some 6, .len true (.t 5) none, none⟩,
 ⟨some 7, .bin .lss (.t 4) (.t 6), none⟩])
 (.cond (.t 7) .skip
 (.exit 0)))
 (.seq (.blk 1 (.seq (.reg [
 ⟨some 10, .mv (.t 0), none⟩,
 ⟨some 11, .mv (.t 3), none⟩,
 ⟨some 12, .idx (.t 10) (.t 11) none 1 false, none⟩,
 ⟨some 13, .call n_billingref23_inText [((.t 12), false)] false, none⟩,
 ⟨some 14, .un .not (.t 13), none⟩])
 (.cond (.t 14) (.seq (.reg [
 ⟨some 2, .mv (.c (.str [])), none⟩])
 .ret)
 .skip)))
 (.reg [
 ⟨some 8, .mv (.t 3), none⟩,
 ⟨some 9, .bin .add (.t 8) (.c (.int .i64 1)), none⟩,
 ⟨some 3, .mv (.t 9), none⟩])))
@[go_sem] def mk_34 : List Bool := [K0,K0,K1,K0,K1,K1,K1,K1,K1,K1,K1,K1,K1,K1,K1]
def billingref23_Quote_l1 : AC := .pre mk_34 billingref23_Quote_l1b
@[go_sem] theorem billingref23_Quote_l1_go : LoopRule billingref23_Quote_l1 billingref23_Quote_l1b mk_34 := loopRule
@[go_sem] theorem billingref23_Quote_l1_lp : LpRule billingref23_Quote_l1 billingref23_Quote_l1b mk_34 := lpRule
def billingref23_Quote_k1b : AC := (.seq (.seq (.reg [
 ⟨some 15, .mv (.t 0), none⟩,
 ⟨some 16, .len true (.t 15) none, none⟩,
 ⟨some 17, .bin .gtr (.t 16) (.c (.int .i64 200)), none⟩])
 (.cond (.t 17) (.seq (.reg [
 ⟨some 2, .mv (.c (.str [])), none⟩])
 .ret)
 .skip))
 (.seq (.reg [
 ⟨some 18, .mv (.t 0), none⟩,
 ⟨some 19, .bin .add (.c (.str [34])) (.t 18), none⟩,
 ⟨some 20, .bin .add (.t 19) (.c (.str [34])), none⟩,
 ⟨some 2, .mv (.t 20), none⟩])
 .ret))
def billingref23_Quote_k1 : AC := .pre mk_33 billingref23_Quote_k1b
def a_billingref23_Quote : AF := ⟨21, (.seq (.reg [
 ⟨some 2, .mv (.c (.str [])), none⟩])
 (.seq (.seq (.reg [
 ⟨some 3, .mv (.c (.int .i64 0)), none⟩])
 (.blk 0 (.loop billingref23_Quote_l1)))
 billingref23_Quote_k1)), [.tmp 2]⟩

/- billing/lexer.Scan$1 -/
def g_lexer_Scan_1 : AC := (.seq (.reg [
 ⟨some 7, .mv (.t 3), none⟩,
 ⟨some 8, .un .plus (.t 7), none⟩])
 (.cond (.t 8) (.seq (.reg [
 ⟨some 10, .mv (.t 3), none⟩,
 ⟨some 11, .tas (.t 10) 99 true (.agg [(.int .i64 0), (.int .i64 0)]), none⟩,
 ⟨some 9, .mv (.t 11), none⟩,
 ⟨some 12, .ext 9 0, none⟩,
 ⟨some 13, .ext 9 1, none⟩,
 ⟨some 4, .newbox [(.int .i64 0), (.int .i64 0)], none⟩,
 ⟨none, .st (.t 4) (.t 12) 2 false (some 4), none⟩,
 ⟨some 5, .mv (.t 13), none⟩])
 (.seq (.seq (.reg [
 ⟨some 14, .mv (.t 5), none⟩,
 ⟨some 15, .un .not (.t 14), none⟩])
 (.cond (.t 15) (.reg [
 ⟨some 16, .fa (.t 4) 1 (some 4), none⟩,
 ⟨none, .st (.t 16) (.c (.int .i64 1)) 1 false (some 4), none⟩])
 .skip))
 (.dreg [
 ⟨some 17, .fa (.t 4) 0 (some 4), none⟩,
 ⟨some 18, .ld (.t 17) none false (some 4), none⟩,
 ⟨some 19, .fa (.t 4) 1 (some 4), none⟩,
 ⟨some 20, .ld (.t 19) none false (some 4), none⟩,
 ⟨none, .st (.t 0) (.c (.sl false 4 [])) 1 false none, none⟩,
 ⟨none, .st (.t 1) (.t 18) 1 false none, none⟩,
 ⟨none, .st (.t 2) (.t 20) 1 false none, none⟩])))
 .skip))

/- (*billing/lexer.scanner).next -/
def a_lexer_scanner_next : AF := ⟨47, (.seq (.reg [
 ⟨some 2, .newbox [(.int .i64 0), (.int .i64 0), (.int .i64 0), (.str [])], none⟩])
 (.seq (.reg [
 ⟨some 4, .mv (.t 0), none⟩,
 ⟨some 5, .call n_lexer_scanner_blanks [((.t 4), false)] true, none⟩])
 (.seq (.seq (.dreg [
 ⟨some 6, .cp (.t 0), none⟩,
 ⟨some 7, .nck (.t 6) none, none⟩,
 ⟨some 8, .fa (.t 7) 1 none, none⟩,
 ⟨some 9, .ld (.t 8) none false none, none⟩,
 ⟨some 10, .cp (.t 0), none⟩,
 ⟨some 11, .nck (.t 10) none, none⟩,
 ⟨some 12, .fa (.t 11) 0 none, none⟩,
 ⟨some 13, .ld (.t 12) none false none, none⟩,
 ⟨some 14, .len true (.t 13) none, none⟩,
 ⟨some 15, .bin .eql (.t 9) (.t 14), none⟩])
 (.cond (.t 15) (.seq (.reg [
 ⟨some 16, .mv (.t 0), none⟩,
 ⟨some 17, .nck (.t 16) none, none⟩,
 ⟨some 18, .fa (.t 17) 1 none, none⟩,
 ⟨some 19, .ld (.t 18) none false none, none⟩,
 ⟨some 20, .build [(.int .i64 0), (.int .i64 0), (.int .i64 0), (.str [])] [(0, 1, (.c (.int .i64 0))), (2, 1, (.t 19))], none⟩,
 ⟨none, .st (.t 2) (.t 20) 4 false (some 2), none⟩])
 .ret)
 .skip))
 (.seq (.dreg [
 ⟨some 21, .cp (.t 0), none⟩,
 ⟨some 22, .nck (.t 21) none, none⟩,
 ⟨some 23, .fa (.t 22) 0 none, none⟩,
 ⟨some 24, .ld (.t 23) none false none, none⟩,
 ⟨some 25, .cp (.t 0), none⟩,
 ⟨some 26, .nck (.t 25) none, none⟩,
 ⟨some 27, .fa (.t 26) 1 none, none⟩,
 ⟨some 28, .ld (.t 27) none false none, none⟩,
 ⟨some 29, .idx (.t 24) (.t 28) none 1 false, none⟩,
 ⟨some 3, .cp (.t 29), none⟩])
 (.seq (.blk 0 (.seq (.reg [
 ⟨some 31, .mv (.t 3), none⟩,
 ⟨some 32, .call n_lexer_lower [((.t 31), false)] false, none⟩,
 ⟨some 30, .mv (.t 32), none⟩])
 (.cond (.t 30) (.seq (.reg [
 ⟨some 33, .mv (.t 0), none⟩,
 ⟨some 34, .call n_lexer_scanner_word [((.t 33), false)] true, none⟩,
 ⟨none, .st (.t 2) (.t 34) 4 false (some 2), none⟩])
 .ret)
 (.seq (.reg [
 ⟨some 36, .mv (.t 3), none⟩,
 ⟨some 37, .call n_lexer_digit [((.t 36), false)] false, none⟩,
 ⟨some 35, .mv (.t 37), none⟩])
 (.cond (.t 35) (.seq (.reg [
 ⟨some 38, .mv (.t 0), none⟩,
 ⟨some 39, .call n_lexer_scanner_number [((.t 38), false)] true, none⟩,
 ⟨none, .st (.t 2) (.t 39) 4 false (some 2), none⟩])
 .ret)
 (.seq (.reg [
 ⟨some 41, .mv (.t 3), none⟩,
 ⟨some 42, .bin .eql (.t 41) (.c (.int .u8 34)), none⟩,
 ⟨some 40, .mv (.t 42), none⟩])
 (.cond (.t 40) (.seq (.reg [
 ⟨some 43, .mv (.t 0), none⟩,
 ⟨some 44, .call n_lexer_scanner_text [((.t 43), false)] true, none⟩,
 ⟨none, .st (.t 2) (.t 44) 4 false (some 2), none⟩])
 .ret)
 .skip)))))))
 (.seq (.reg [
 ⟨some 45, .mv (.t 0), none⟩,
 ⟨some 46, .call n_lexer_scanner_symbol [((.t 45), false)] true, none⟩,
 ⟨none, .st (.t 2) (.t 46) 4 false (some 2), none⟩])
 .ret)))))), [.cell 2 (some 4)]⟩

/- billing/billingref23.token -/
def a_billingref23_token : AF := ⟨41, (.seq (.reg [
 ⟨some 4, .newbox [(.int .i64 0), (.int .i64 0), (.int .i64 0), (.str [])], none⟩,
 ⟨some 5, .mv (.c (.int .i64 0)), none⟩,
 ⟨some 6, .mv (.c (.int .i64 0)), none⟩])
 (.seq (.reg [
 ⟨some 8, .mv (.t 0), none⟩,
 ⟨some 9, .mv (.t 1), none⟩,
 ⟨some 10, .idx (.t 8) (.t 9) none 1 false, none⟩,
 ⟨some 7, .mv (.t 10), none⟩])
 (.seq (.seq (.reg [
 ⟨some 11, .mv (.t 7), none⟩,
 ⟨some 12, .call n_billingref23_Lower [((.t 11), false)] false, none⟩])
 (.cond (.t 12) (.seq (.reg [
 ⟨some 13, .mv (.t 0), none⟩,
 ⟨some 14, .mv (.t 1), none⟩,
 ⟨some 15, .call n_billingref23_word [((.t 13), false), ((.t 14), false)] false, none⟩,
 ⟨some 16, .ext 15 0, none⟩,
 ⟨some 17, .ext 15 1, none⟩,
 ⟨some 18, .ext 15 2, none⟩,
 ⟨none, .st (.t 4) (.t 16) 4 false (some 4), none⟩,
 ⟨some 5, .mv (.t 17), none⟩,
 ⟨some 6, .mv (.t 18), none⟩])
 .ret)
 .skip))
 (.seq (.seq (.reg [
 ⟨some 19, .mv (.t 7), none⟩,
 ⟨some 20, .call n_billingref23_Digit [((.t 19), false)] false, none⟩])
 (.cond (.t 20) (.seq (.reg [
 ⟨some 21, .mv (.t 0), none⟩,
 ⟨some 22, .mv (.t 1), none⟩,
 ⟨some 23, .call n_billingref23_number [((.t 21), false), ((.t 22), false)] false, none⟩,
 ⟨some 24, .ext 23 0, none⟩,
 ⟨some 25, .ext 23 1, none⟩,
 ⟨some 26, .ext 23 2, none⟩,
 ⟨none, .st (.t 4) (.t 24) 4 false (some 4), none⟩,
 ⟨some 5, .mv (.t 25), none⟩,
 ⟨some 6, .mv (.t 26), none⟩])
 .ret)
 .skip))
 (.seq (.seq (.reg [
 ⟨some 27, .mv (.t 7), none⟩,
 ⟨some 28, .bin .eql (.t 27) (.c (.int .u8 34)), none⟩])
 (.cond (.t 28) (.seq (.reg [
 ⟨some 29, .mv (.t 0), none⟩,
 ⟨some 30, .mv (.t 1), none⟩,
 ⟨some 31, .call n_billingref23_text [((.t 29), false), ((.t 30), false)] false, none⟩,
 ⟨some 32, .ext 31 0, none⟩,
 ⟨some 33, .ext 31 1, none⟩,
 ⟨some 34, .ext 31 2, none⟩,
 ⟨none, .st (.t 4) (.t 32) 4 false (some 4), none⟩,
 ⟨some 5, .mv (.t 33), none⟩,
 ⟨some 6, .mv (.t 34), none⟩])
 .ret)
 .skip))
 (.seq (.reg [
 ⟨some 35, .mv (.t 0), none⟩,
 ⟨some 36, .mv (.t 1), none⟩,
 ⟨some 37, .call n_billingref23_symbol [((.t 35), false), ((.t 36), false)] false, none⟩,
 ⟨some 38, .ext 37 0, none⟩,
 ⟨some 39, .ext 37 1, none⟩,
 ⟨some 40, .ext 37 2, none⟩,
 ⟨none, .st (.t 4) (.t 38) 4 false (some 4), none⟩,
 ⟨some 5, .mv (.t 39), none⟩,
 ⟨some 6, .mv (.t 40), none⟩])
 .ret)))))), [.cell 4 (some 4), .tmp 5, .tmp 6]⟩
@[go_sem] def mk_35 : List Bool := [K1,K1,K0,K0,K1,K1,K1,K1,K1,K1,K1,K1,K1,K1,K1,K1,K1,K1]

/- billing/billingref23.Has -/
def billingref23_Has_l1b : AC := (.seq (.seq (.reg [
 ⟨some 6, .mv (.t 5), none⟩,
 ⟨some 7, .cp (.t 0), none⟩,
 ⟨some 8, .len false (.t 7) (some 0), none⟩,
 ⟨some 9, .bin .lss (.t 6) (.t 8), none⟩])
 (.cond (.t 9) .skip
 (.exit 0)))
 (.seq (.blk 1 (.seq (.reg [
 ⟨some 12, .cp (.t 0), none⟩,
 ⟨some 13, .mv (.t 5), none⟩,
 ⟨some 14, .ia (.t 12) (.t 13) 1 none (some 0), none⟩,
 ⟨some 15, .ld (.t 14) none false none, none⟩,
 ⟨some 16, .mv (.t 1), none⟩,
 ⟨some 17, .bin .eql (.t 15) (.t 16), none⟩])
 (.cond (.t 17) (.seq (.reg [
 ⟨some 4, .mv (.c (.bool true)), none⟩])
 .ret)
 .skip)))
 (.reg [
 ⟨some 10, .mv (.t 5), none⟩,
 ⟨some 11, .bin .add (.t 10) (.c (.int .i64 1)), none⟩,
 ⟨some 5, .mv (.t 11), none⟩])))
@[go_sem] def mk_36 : List Bool := [K0,K0,K0,K0,K1,K0,K1,K1,K1,K1,K1,K1,K1,K1,K1,K1,K1,K1]
def billingref23_Has_l1 : AC := .pre mk_36 billingref23_Has_l1b
@[go_sem] theorem billingref23_Has_l1_go : LoopRule billingref23_Has_l1 billingref23_Has_l1b mk_36 := loopRule
@[go_sem] theorem billingref23_Has_l1_lp : LpRule billingref23_Has_l1 billingref23_Has_l1b mk_36 := lpRule
def billingref23_Has_k1b : AC := (.seq (.reg [
 ⟨some 4, .mv (.c (.bool false)), none⟩])
 .ret)
def billingref23_Has_k1 : AC := .pre mk_35 billingref23_Has_k1b
def a_billingref23_Has : AF := ⟨18, (.seq (.reg [
 ⟨some 4, .mv (.c (.bool false)), none⟩])
 (.seq (.seq (.reg [
 ⟨some 5, .mv (.c (.int .i64 0)), none⟩])
 (.blk 0 (.loop billingref23_Has_l1)))
 billingref23_Has_k1)), [.tmp 4]⟩

/- billing/billingref23.inText -/
def a_billingref23_inText : AF := ⟨13, (.seq (.reg [
 ⟨some 2, .mv (.c (.bool false)), none⟩])
 (.seq (.reg [
 ⟨some 3, .mv (.t 0), none⟩,
 ⟨some 4, .bin .geq (.t 3) (.c (.int .u8 32)), none⟩,
 ⟨some 5, .mv (.t 4), none⟩,
 ⟨some 6, .mv (.t 0), some (5, true)⟩,
 ⟨some 7, .bin .leq (.t 6) (.c (.int .u8 126)), some (5, true)⟩,
 ⟨some 8, .pick (.t 5) (.t 7) (.c (.bool false)), none⟩,
 ⟨some 9, .mv (.t 8), none⟩,
 ⟨some 10, .mv (.t 0), some (9, true)⟩,
 ⟨some 11, .bin .neq (.t 10) (.c (.int .u8 34)), some (9, true)⟩,
 ⟨some 12, .pick (.t 9) (.t 11) (.c (.bool false)), none⟩,
 ⟨some 2, .mv (.t 12), none⟩])
 .ret)), [.tmp 2]⟩
@[go_sem] def mk_37 : List Bool := [K0,K0,K1,K1,K1,K1,K1,K1,K1,K1,K1,K1,K1,K1,K1,K1,K1,K1,K1,K1,K1,K1,K1,K1,K1,K1,K1,K1,K1,K1,K1,K1,K1,K1]

/- (*billing/lexer.scanner).blanks -/
def lexer_scanner_blanks_l1b : AC := (.seq (.seq (.dreg [
 ⟨some 34, .cp (.t 0), none⟩,
 ⟨some 35, .nck (.t 34) none, none⟩,
 ⟨some 36, .fa (.t 35) 1 none, none⟩,
 ⟨some 37, .ld (.t 36) none false none, none⟩,
 ⟨some 38, .cp (.t 0), none⟩,
 ⟨some 39, .nck (.t 38) none, none⟩,
 ⟨some 40, .fa (.t 39) 0 none, none⟩,
 ⟨some 41, .ld (.t 40) none false none, none⟩,
 ⟨some 42, .len true (.t 41) none, none⟩,
 ⟨some 43, .bin .lss (.t 37) (.t 42), none⟩,
 ⟨some 44, .cp (.t 43), none⟩,
 ⟨some 45, .cp (.t 0), some (44, true)⟩,
 ⟨some 46, .nck (.t 45) none, some (44, true)⟩,
 ⟨some 47, .fa (.t 46) 0 none, some (44, true)⟩,
 ⟨some 48, .ld (.t 47) none false none, some (44, true)⟩,
 ⟨some 49, .cp (.t 0), some (44, true)⟩,
 ⟨some 50, .nck (.t 49) none, some (44, true)⟩,
 ⟨some 51, .fa (.t 50) 1 none, some (44, true)⟩,
 ⟨some 52, .ld (.t 51) none false none, some (44, true)⟩,
 ⟨some 53, .idx (.t 48) (.t 52) none 1 false, some (44, true)⟩,
 ⟨some 54, .bin .neq (.t 53) (.c (.int .u8 10)), some (44, true)⟩,
 ⟨some 55, .pick (.t 44) (.t 54) (.c (.bool false)), none⟩])
 (.cond (.t 55) .skip
 (.exit 3)))
 (.blk 4 (.reg [
 ⟨some 56, .mv (.t 0), none⟩,
 ⟨some 57, .nck (.t 56) none, none⟩,
 ⟨some 58, .fa (.t 57) 1 none, none⟩,
 ⟨some 59, .ld (.t 58) none false none, none⟩,
 ⟨some 60, .bin .add (.t 59) (.c (.int .i64 1)), none⟩,
 ⟨some 61, .nck (.t 56) none, none⟩,
 ⟨some 62, .fa (.t 61) 1 none, none⟩,
 ⟨none, .st (.t 62) (.t 60) 1 false none, none⟩])))
@[go_sem] def mk_38 : List Bool := [K0,K0,K0,K0,K0,K0,K0,K0,K0,K0,K0,K0,K0,K0,K0,K0,K0,K0,K0,K0,K0,K0,K0,K0,K0,K0,K0,K0,K0,K0,K0,K0,K0,K0,K1,K1,K1,K1,K1,K1,K1,K1,K1,K1,K1,K1,K1,K1,K1,K1,K1,K1,K1,K1,K1,K1,K1,K1,K1,K1,K1,K1,K1]
def lexer_scanner_blanks_l1 : AC := .pre mk_38 lexer_scanner_blanks_l1b
@[go_sem] theorem lexer_scanner_blanks_l1_go : LoopRule lexer_scanner_blanks_l1 lexer_scanner_blanks_l1b mk_38 := loopRule
@[go_sem] theorem lexer_scanner_blanks_l1_lp : LpRule lexer_scanner_blanks_l1 lexer_scanner_blanks_l1b mk_38 := lpRule
def lexer_scanner_blanks_l2b : AC := (.seq (.seq (.dreg [
 ⟨some 2, .cp (.t 0), none⟩,
 ⟨some 3, .nck (.t 2) none, none⟩,
 ⟨some 4, .fa (.t 3) 1 none, none⟩,
 ⟨some 5, .ld (.t 4) none false none, none⟩,
 ⟨some 6, .cp (.t 0), none⟩,
 ⟨some 7, .nck (.t 6) none, none⟩,
 ⟨some 8, .fa (.t 7) 0 none, none⟩,
 ⟨some 9, .ld (.t 8) none false none, none⟩,
 ⟨some 10, .len true (.t 9) none, none⟩,
 ⟨some 11, .bin .lss (.t 5) (.t 10), none⟩])
 (.cond (.t 11) .skip
 (.exit 0)))
 (.blk 1 (.seq (.dreg [
 ⟨some 12, .cp (.t 0), none⟩,
 ⟨some 13, .nck (.t 12) none, none⟩,
 ⟨some 14, .fa (.t 13) 0 none, none⟩,
 ⟨some 15, .ld (.t 14) none false none, none⟩,
 ⟨some 16, .cp (.t 0), none⟩,
 ⟨some 17, .nck (.t 16) none, none⟩,
 ⟨some 18, .fa (.t 17) 1 none, none⟩,
 ⟨some 19, .ld (.t 18) none false none, none⟩,
 ⟨some 20, .idx (.t 15) (.t 19) none 1 false, none⟩])
 (.blk 2 (.seq (.seq (.reg [
 ⟨some 22, .bin .eql (.t 20) (.c (.int .u8 32)), none⟩,
 ⟨some 21, .mv (.t 22), none⟩])
 (.cond (.t 21) .skip
 (.seq (.reg [
 ⟨some 23, .bin .eql (.t 20) (.c (.int .u8 9)), none⟩,
 ⟨some 21, .mv (.t 23), none⟩])
 (.cond (.t 21) .skip
 (.reg [
 ⟨some 24, .bin .eql (.t 20) (.c (.int .u8 10)), none⟩,
 ⟨some 21, .mv (.t 24), none⟩])))))
 (.cond (.t 21) (.reg [
 ⟨some 25, .mv (.t 0), none⟩,
 ⟨some 26, .nck (.t 25) none, none⟩,
 ⟨some 27, .fa (.t 26) 1 none, none⟩,
 ⟨some 28, .ld (.t 27) none false none, none⟩,
 ⟨some 29, .bin .add (.t 28) (.c (.int .i64 1)), none⟩,
 ⟨some 30, .nck (.t 25) none, none⟩,
 ⟨some 31, .fa (.t 30) 1 none, none⟩,
 ⟨none, .st (.t 31) (.t 29) 1 false none, none⟩])
 (.seq (.reg [
 ⟨some 33, .bin .eql (.t 20) (.c (.int .u8 35)), none⟩,
 ⟨some 32, .mv (.t 33), none⟩])
 (.cond (.t 32) (.blk 3 (.pre mk_37 (.loop lexer_scanner_blanks_l1)))
 .ret))))))))
@[go_sem] def mk_39 : List Bool := [K0,K0,K1,K1,K1,K1,K1,K1,K1,K1,K1,K1,K1,K1,K1,K1,K1,K1,K1,K1,K1,K1,K1,K1,K1,K1,K1,K1,K1,K1,K1,K1,K1,K1,K1,K1,K1,K1,K1,K1,K1,K1,K1,K1,K1,K1,K1,K1,K1,K1,K1,K1,K1,K1,K1,K1,K1,K1,K1,K1,K1,K1,K1]
def lexer_scanner_blanks_l2 : AC := .pre mk_39 lexer_scanner_blanks_l2b
@[go_sem] theorem lexer_scanner_blanks_l2_go : LoopRule lexer_scanner_blanks_l2 lexer_scanner_blanks_l2b mk_39 := loopRule
@[go_sem] theorem lexer_scanner_blanks_l2_lp : LpRule lexer_scanner_blanks_l2 lexer_scanner_blanks_l2b mk_39 := lpRule
def a_lexer_scanner_blanks : AF := ⟨63, (.blk 0 (.loop lexer_scanner_blanks_l2)), []⟩

/- billing/lexer.lower -/
def a_lexer_lower : AF := ⟨9, (.seq (.reg [
 ⟨some 2, .mv (.c (.bool false)), none⟩])
 (.seq (.reg [
 ⟨some 3, .mv (.t 0), none⟩,
 ⟨some 4, .bin .geq (.t 3) (.c (.int .u8 97)), none⟩,
 ⟨some 5, .mv (.t 4), none⟩,
 ⟨some 6, .mv (.t 0), some (5, true)⟩,
 ⟨some 7, .bin .leq (.t 6) (.c (.int .u8 122)), some (5, true)⟩,
 ⟨some 8, .pick (.t 5) (.t 7) (.c (.bool false)), none⟩,
 ⟨some 2, .mv (.t 8), none⟩])
 .ret)), [.tmp 2]⟩
@[go_sem] def mk_40 : List Bool := [K0,K0,K0,K0,K1,K1,K1,K1]
@[go_sem] def mk_41 : List Bool := [K0,K0,K0,K0,K1,K1,K1,K1,K1,K1,K1,K1,K1,K1,K1,K1,K1,K1,K1,K1,K1,K1,K1,K1,K1,K1,K1,K1,K1,K1,K1,K1,K1,K1,K1,K1,K1,K1,K1,K1,K1,K1,K1,K1,K1,K1,K1,K1,K1,K1,K1,K1,K1,K1,K1,K1,K1,K1,K1,K1,K1]

/- (*billing/lexer.scanner).word -/
def lexer_scanner_word_l1b : AC := (.seq (.seq (.dreg [
 ⟨some 8, .cp (.t 0), none⟩,
 ⟨some 9, .nck (.t 8) none, none⟩,
 ⟨some 10, .fa (.t 9) 1 none, none⟩,
 ⟨some 11, .ld (.t 10) none false none, none⟩,
 ⟨some 12, .cp (.t 0), none⟩,
 ⟨some 13, .nck (.t 12) none, none⟩,
 ⟨some 14, .fa (.t 13) 0 none, none⟩,
 ⟨some 15, .ld (.t 14) none false none, none⟩,
 ⟨some 16, .len true (.t 15) none, none⟩,
 ⟨some 17, .bin .lss (.t 11) (.t 16), none⟩,
 ⟨some 18, .cp (.t 17), none⟩,
 ⟨some 19, .cp (.t 0), some (18, true)⟩,
 ⟨some 20, .nck (.t 19) none, some (18, true)⟩,
 ⟨some 21, .fa (.t 20) 0 none, some (18, true)⟩,
 ⟨some 22, .ld (.t 21) none false none, some (18, true)⟩,
 ⟨some 23, .cp (.t 0), some (18, true)⟩,
 ⟨some 24, .nck (.t 23) none, some (18, true)⟩,
 ⟨some 25, .fa (.t 24) 1 none, some (18, true)⟩,
 ⟨some 26, .ld (.t 25) none false none, some (18, true)⟩,
 ⟨some 27, .idx (.t 22) (.t 26) none 1 false, some (18, true)⟩,
 ⟨some 28, .call n_lexer_lower [((.t 27), false)] false, some (18, true)⟩,
 ⟨some 29, .cp (.t 28), some (18, true)⟩,
 ⟨some 30, .cp (.t 0), some (29, false)⟩,
 ⟨some 31, .nck (.t 30) none, some (29, false)⟩,
 ⟨some 32, .fa (.t 31) 0 none, some (29, false)⟩,
 ⟨some 33, .ld (.t 32) none false none, some (29, false)⟩,
 ⟨some 34, .cp (.t 0), some (29, false)⟩,
 ⟨some 35, .nck (.t 34) none, some (29, false)⟩,
 ⟨some 36, .fa (.t 35) 1 none, some (29, false)⟩,
 ⟨some 37, .ld (.t 36) none false none, some (29, false)⟩,
 ⟨some 38, .idx (.t 33) (.t 37) none 1 false, some (29, false)⟩,
 ⟨some 39, .call n_lexer_digit [((.t 38), false)] false, some (29, false)⟩,
 ⟨some 40, .pick (.t 29) (.c (.bool true)) (.t 39), some (18, true)⟩,
 ⟨some 41, .cp (.t 40), some (18, true)⟩,
 ⟨some 42, .cp (.t 0), some (41, false)⟩,
 ⟨some 43, .nck (.t 42) none, some (41, false)⟩,
 ⟨some 44, .fa (.t 43) 0 none, some (41, false)⟩,
 ⟨some 45, .ld (.t 44) none false none, some (41, false)⟩,
 ⟨some 46, .cp (.t 0), some (41, false)⟩,
 ⟨some 47, .nck (.t 46) none, some (41, false)⟩,
 ⟨some 48, .fa (.t 47) 1 none, some (41, false)⟩,
 ⟨some 49, .ld (.t 48) none false none, some (41, false)⟩,
 ⟨some 50, .idx (.t 45) (.t 49) none 1 false, some (41, false)⟩,
 ⟨some 51, .bin .eql (.t 50) (.c (.int .u8 45)), some (41, false)⟩,
 ⟨some 52, .pick (.t 41) (.c (.bool true)) (.t 51), some (18, true)⟩,
 ⟨some 53, .pick (.t 18) (.t 52) (.c (.bool false)), none⟩])
 (.cond (.t 53) .skip
 (.exit 0)))
 (.blk 1 (.reg [
 ⟨some 54, .mv (.t 0), none⟩,
 ⟨some 55, .nck (.t 54) none, none⟩,
 ⟨some 56, .fa (.t 55) 1 none, none⟩,
 ⟨some 57, .ld (.t 56) none false none, none⟩,
 ⟨some 58, .bin .add (.t 57) (.c (.int .i64 1)), none⟩,
 ⟨some 59, .nck (.t 54) none, none⟩,
 ⟨some 60, .fa (.t 59) 1 none, none⟩,
 ⟨none, .st (.t 60) (.t 58) 1 false none, none⟩])))
@[go_sem] def mk_42 : List Bool := [K0,K0,K0,K0,K0,K0,K0,K0,K1,K1,K1,K1,K1,K1,K1,K1,K1,K1,K1,K1,K1,K1,K1,K1,K1,K1,K1,K1,K1,K1,K1,K1,K1,K1,K1,K1,K1,K1,K1,K1,K1,K1,K1,K1,K1,K1,K1,K1,K1,K1,K1,K1,K1,K1,K1,K1,K1,K1,K1,K1,K1]
def lexer_scanner_word_l1 : AC := .pre mk_42 lexer_scanner_word_l1b
@[go_sem] theorem lexer_scanner_word_l1_go : LoopRule lexer_scanner_word_l1 lexer_scanner_word_l1b mk_42 := loopRule
@[go_sem] theorem lexer_scanner_word_l1_lp : LpRule lexer_scanner_word_l1 lexer_scanner_word_l1b mk_42 := lpRule
def lexer_scanner_word_k1b : AC := (.seq (.seq (.reg [
 ⟨some 61, .mv (.t 0), none⟩,
 ⟨some 62, .nck (.t 61) none, none⟩,
 ⟨some 63, .fa (.t 62) 1 none, none⟩,
 ⟨some 64, .ld (.t 63) none false none, none⟩,
 ⟨some 65, .mv (.t 3), none⟩,
 ⟨some 66, .bin .sub (.t 64) (.t 65), none⟩,
 ⟨some 67, .bin .gtr (.t 66) (.c (.int .i64 24)), none⟩])
 (.cond (.t 67) (.reg [
 ⟨some 68, .mv (.t 3), none⟩,
 ⟨some 69, .call n_lexer_fail [((.t 68), false), ((.c (.int .i64 5)), false)] false, none⟩])
 .skip))
 (.seq (.dreg [
 ⟨some 70, .cp (.t 3), none⟩,
 ⟨some 71, .cp (.t 0), none⟩,
 ⟨some 72, .nck (.t 71) none, none⟩,
 ⟨some 73, .fa (.t 72) 0 none, none⟩,
 ⟨some 74, .ld (.t 73) none false none, none⟩,
 ⟨some 75, .cp (.t 3), none⟩,
 ⟨some 76, .cp (.t 0), none⟩,
 ⟨some 77, .nck (.t 76) none, none⟩,
 ⟨some 78, .fa (.t 77) 1 none, none⟩,
 ⟨some 79, .ld (.t 78) none false none, none⟩,
 ⟨some 80, .slc none (.t 74) (some (.t 75)) (some (.t 79)) none, none⟩,
 ⟨some 81, .build [(.int .i64 0), (.int .i64 0), (.int .i64 0), (.str [])] [(0, 1, (.c (.int .i64 1))), (2, 1, (.t 70)), (3, 1, (.t 80))], none⟩,
 ⟨none, .st (.t 2) (.t 81) 4 false (some 2), none⟩])
 .ret))
def lexer_scanner_word_k1 : AC := .pre mk_41 lexer_scanner_word_k1b
def a_lexer_scanner_word : AF := ⟨82, (.seq (.reg [
 ⟨some 2, .newbox [(.int .i64 0), (.int .i64 0), (.int .i64 0), (.str [])], none⟩])
 (.seq (.reg [
 ⟨some 4, .mv (.t 0), none⟩,
 ⟨some 5, .nck (.t 4) none, none⟩,
 ⟨some 6, .fa (.t 5) 1 none, none⟩,
 ⟨some 7, .ld (.t 6) none false none, none⟩,
 ⟨some 3, .mv (.t 7), none⟩])
 (.seq (.blk 0 (.pre mk_40 (.loop lexer_scanner_word_l1)))
 lexer_scanner_word_k1))), [.cell 2 (some 4)]⟩

/- billing/lexer.digit -/
def a_lexer_digit : AF := ⟨9, (.seq (.reg [
 ⟨some 2, .mv (.c (.bool false)), none⟩])
 (.seq (.reg [
 ⟨some 3, .mv (.t 0), none⟩,
 ⟨some 4, .bin .geq (.t 3) (.c (.int .u8 48)), none⟩,
 ⟨some 5, .mv (.t 4), none⟩,
 ⟨some 6, .mv (.t 0), some (5, true)⟩,
 ⟨some 7, .bin .leq (.t 6) (.c (.int .u8 57)), some (5, true)⟩,
 ⟨some 8, .pick (.t 5) (.t 7) (.c (.bool false)), none⟩,
 ⟨some 2, .mv (.t 8), none⟩])
 .ret)), [.tmp 2]⟩
@[go_sem] def mk_43 : List Bool := [K0,K0,K0,K0,K0,K1,K1,K1,K1]
@[go_sem] def mk_44 : List Bool := [K0,K0,K0,K0,K0,K1,K1,K1,K1,K1,K1,K1,K1,K1,K1,K1,K1,K1,K1,K1,K1,K1,K1,K1,K1,K1,K1,K1,K1,K1,K1,K1,K1,K1,K1,K1,K1,K1,K1,K1,K1,K1,K1,K1,K1,K1,K1,K1,K1,K1,K1,K1,K1,K1,K1,K1,K1,K1,K1]

/- (*billing/lexer.scanner).number -/
def lexer_scanner_number_l1b : AC := (.seq (.seq (.dreg [
 ⟨some 9, .cp (.t 0), none⟩,
 ⟨some 10, .nck (.t 9) none, none⟩,
 ⟨some 11, .fa (.t 10) 1 none, none⟩,
 ⟨some 12, .ld (.t 11) none false none, none⟩,
 ⟨some 13, .cp (.t 0), none⟩,
 ⟨some 14, .nck (.t 13) none, none⟩,
 ⟨some 15, .fa (.t 14) 0 none, none⟩,
 ⟨some 16, .ld (.t 15) none false none, none⟩,
 ⟨some 17, .len true (.t 16) none, none⟩,
 ⟨some 18, .bin .lss (.t 12) (.t 17), none⟩,
 ⟨some 19, .cp (.t 18), none⟩,
 ⟨some 20, .cp (.t 0), some (19, true)⟩,
 ⟨some 21, .nck (.t 20) none, some (19, true)⟩,
 ⟨some 22, .fa (.t 21) 0 none, some (19, true)⟩,
 ⟨some 23, .ld (.t 22) none false none, some (19, true)⟩,
 ⟨some 24, .cp (.t 0), some (19, true)⟩,
 ⟨some 25, .nck (.t 24) none, some (19, true)⟩,
 ⟨some 26, .fa (.t 25) 1 none, some (19, true)⟩,
 ⟨some 27, .ld (.t 26) none false none, some (19, true)⟩,
 ⟨some 28, .idx (.t 23) (.t 27) none 1 false, some (19, true)⟩,
 ⟨some 29, .call n_lexer_digit [((.t 28), false)] false, some (19, true)⟩,
 ⟨some 30, .pick (.t 19) (.t 29) (.c (.bool false)), none⟩])
 (.cond (.t 30) .skip
 (.exit 0)))
 (.blk 1 (.seq (.seq (.reg [
 ⟨some 31, .mv (.t 0), none⟩,
 ⟨some 32, .nck (.t 31) none, none⟩,
 ⟨some 33, .fa (.t 32) 1 none, none⟩,
 ⟨some 34, .ld (.t 33) none false none, none⟩,
 ⟨some 35, .mv (.t 3), none⟩,
 ⟨some 36, .bin .sub (.t 34) (.t 35), none⟩,
 ⟨some 37, .bin .lss (.t 36) (.c (.int .i64 16)), none⟩])
 (.cond (.t 37) (.dreg [
 ⟨some 38, .cp (.t 4), none⟩,
 ⟨some 39, .bin .mul (.t 38) (.c (.int .i64 10)), none⟩,
 ⟨some 40, .cp (.t 0), none⟩,
 ⟨some 41, .nck (.t 40) none, none⟩,
 ⟨some 42, .fa (.t 41) 0 none, none⟩,
 ⟨some 43, .ld (.t 42) none false none, none⟩,
 ⟨some 44, .cp (.t 0), none⟩,
 ⟨some 45, .nck (.t 44) none, none⟩,
 ⟨some 46, .fa (.t 45) 1 none, none⟩,
 ⟨some 47, .ld (.t 46) none false none, none⟩,
 ⟨some 48, .idx (.t 43) (.t 47) none 1 false, none⟩,
 ⟨some 49, .bin .sub (.t 48) (.c (.int .u8 48)), none⟩,
 ⟨some 50, .cvi .i64 (.t 49), none⟩,
 ⟨some 51, .bin .add (.t 39) (.t 50), none⟩,
 ⟨some 4, .cp (.t 51), none⟩])
 .skip))
 (.reg [
 ⟨some 52, .mv (.t 0), none⟩,
 ⟨some 53, .nck (.t 52) none, none⟩,
 ⟨some 54, .fa (.t 53) 1 none, none⟩,
 ⟨some 55, .ld (.t 54) none false none, none⟩,
 ⟨some 56, .bin .add (.t 55) (.c (.int .i64 1)), none⟩,
 ⟨some 57, .nck (.t 52) none, none⟩,
 ⟨some 58, .fa (.t 57) 1 none, none⟩,
 ⟨none, .st (.t 58) (.t 56) 1 false none, none⟩]))))
@[go_sem] def mk_45 : List Bool := [K0,K0,K0,K0,K0,K0,K0,K0,K0,K1,K1,K1,K1,K1,K1,K1,K1,K1,K1,K1,K1,K1,K1,K1,K1,K1,K1,K1,K1,K1,K1,K1,K1,K1,K1,K1,K1,K1,K1,K1,K1,K1,K1,K1,K1,K1,K1,K1,K1,K1,K1,K1,K1,K1,K1,K1,K1,K1,K1]
def lexer_scanner_number_l1 : AC := .pre mk_45 lexer_scanner_number_l1b
@[go_sem] theorem lexer_scanner_number_l1_go : LoopRule lexer_scanner_number_l1 lexer_scanner_number_l1b mk_45 := loopRule
@[go_sem] theorem lexer_scanner_number_l1_lp : LpRule lexer_scanner_number_l1 lexer_scanner_number_l1b mk_45 := lpRule
def lexer_scanner_number_k1b : AC := (.seq (.seq (.reg [
 ⟨some 59, .mv (.t 0), none⟩,
 ⟨some 60, .nck (.t 59) none, none⟩,
 ⟨some 61, .fa (.t 60) 1 none, none⟩,
 ⟨some 62, .ld (.t 61) none false none, none⟩,
 ⟨some 63, .mv (.t 3), none⟩,
 ⟨some 64, .bin .sub (.t 62) (.t 63), none⟩,
 ⟨some 65, .bin .gtr (.t 64) (.c (.int .i64 16)), none⟩])
 (.cond (.t 65) (.reg [
 ⟨some 66, .mv (.t 3), none⟩,
 ⟨some 67, .call n_lexer_fail [((.t 66), false), ((.c (.int .i64 5)), false)] false, none⟩])
 .skip))
 (.seq (.seq (.dreg [
 ⟨some 68, .cp (.t 0), none⟩,
 ⟨some 69, .nck (.t 68) none, none⟩,
 ⟨some 70, .fa (.t 69) 1 none, none⟩,
 ⟨some 71, .ld (.t 70) none false none, none⟩,
 ⟨some 72, .cp (.t 0), none⟩,
 ⟨some 73, .nck (.t 72) none, none⟩,
 ⟨some 74, .fa (.t 73) 0 none, none⟩,
 ⟨some 75, .ld (.t 74) none false none, none⟩,
 ⟨some 76, .len true (.t 75) none, none⟩,
 ⟨some 77, .bin .lss (.t 71) (.t 76), none⟩,
 ⟨some 78, .cp (.t 77), none⟩,
 ⟨some 79, .cp (.t 0), some (78, true)⟩,
 ⟨some 80, .nck (.t 79) none, some (78, true)⟩,
 ⟨some 81, .fa (.t 80) 0 none, some (78, true)⟩,
 ⟨some 82, .ld (.t 81) none false none, some (78, true)⟩,
 ⟨some 83, .cp (.t 0), some (78, true)⟩,
 ⟨some 84, .nck (.t 83) none, some (78, true)⟩,
 ⟨some 85, .fa (.t 84) 1 none, some (78, true)⟩,
 ⟨some 86, .ld (.t 85) none false none, some (78, true)⟩,
 ⟨some 87, .idx (.t 82) (.t 86) none 1 false, some (78, true)⟩,
 ⟨some 88, .call n_lexer_lower [((.t 87), false)] false, some (78, true)⟩,
 ⟨some 89, .pick (.t 78) (.t 88) (.c (.bool false)), none⟩])
 (.cond (.t 89) (.reg [
 ⟨some 90, .mv (.t 3), none⟩,
 ⟨some 91, .call n_lexer_fail [((.t 90), false), ((.c (.int .i64 1)), false)] false, none⟩])
 .skip))
 (.seq (.dreg [
 ⟨some 92, .cp (.t 4), none⟩,
 ⟨some 93, .cp (.t 3), none⟩,
 ⟨some 94, .cp (.t 0), none⟩,
 ⟨some 95, .nck (.t 94) none, none⟩,
 ⟨some 96, .fa (.t 95) 0 none, none⟩,
 ⟨some 97, .ld (.t 96) none false none, none⟩,
 ⟨some 98, .cp (.t 3), none⟩,
 ⟨some 99, .cp (.t 0), none⟩,
 ⟨some 100, .nck (.t 99) none, none⟩,
 ⟨some 101, .fa (.t 100) 1 none, none⟩,
 ⟨some 102, .ld (.t 101) none false none, none⟩,
 ⟨some 103, .slc none (.t 97) (some (.t 98)) (some (.t 102)) none, none⟩,
 ⟨some 104, .build [(.int .i64 0), (.int .i64 0), (.int .i64 0), (.str [])] [(0, 1, (.c (.int .i64 2))), (1, 1, (.t 92)), (2, 1, (.t 93)), (3, 1, (.t 103))], none⟩,
 ⟨none, .st (.t 2) (.t 104) 4 false (some 2), none⟩])
 .ret)))
def lexer_scanner_number_k1 : AC := .pre mk_44 lexer_scanner_number_k1b
def a_lexer_scanner_number : AF := ⟨105, (.seq (.reg [
 ⟨some 2, .newbox [(.int .i64 0), (.int .i64 0), (.int .i64 0), (.str [])], none⟩])
 (.seq (.reg [
 ⟨some 5, .mv (.t 0), none⟩,
 ⟨some 6, .nck (.t 5) none, none⟩,
 ⟨some 7, .fa (.t 6) 1 none, none⟩,
 ⟨some 8, .ld (.t 7) none false none, none⟩,
 ⟨some 3, .mv (.t 8), none⟩])
 (.seq (.reg [
 ⟨some 4, .mv (.c (.int .i64 0)), none⟩])
 (.seq (.blk 0 (.pre mk_43 (.loop lexer_scanner_number_l1)))
 lexer_scanner_number_k1)))), [.cell 2 (some 4)]⟩
@[go_sem] def mk_46 : List Bool := [K0,K0,K0,K0,K0,K1,K1,K1,K1,K1,K1,K1,K1,K1,K1,K1]
@[go_sem] def mk_47 : List Bool := [K0,K0,K0,K0,K0,K1,K1,K1,K1,K1,K1,K1,K1,K1,K1,K1,K1,K1,K1,K1,K1,K1,K1,K1,K1,K1,K1,K1,K1,K1,K1,K1,K1,K1,K1,K1,K1,K1,K1,K1,K1,K1,K1,K1,K1,K1,K1,K1,K1,K1,K1,K1,K1,K1,K1,K1,K1,K1,K1,K1,K1,K1,K1,K1,K1,K1,K1,K1,K1]

/- (*billing/lexer.scanner).text -/
def lexer_scanner_text_l1b : AC := (.seq (.seq (.dreg [
 ⟨some 16, .cp (.t 0), none⟩,
 ⟨some 17, .nck (.t 16) none, none⟩,
 ⟨some 18, .fa (.t 17) 1 none, none⟩,
 ⟨some 19, .ld (.t 18) none false none, none⟩,
 ⟨some 20, .cp (.t 0), none⟩,
 ⟨some 21, .nck (.t 20) none, none⟩,
 ⟨some 22, .fa (.t 21) 0 none, none⟩,
 ⟨some 23, .ld (.t 22) none false none, none⟩,
 ⟨some 24, .len true (.t 23) none, none⟩,
 ⟨some 25, .bin .lss (.t 19) (.t 24), none⟩,
 ⟨some 26, .cp (.t 25), none⟩,
 ⟨some 27, .cp (.t 0), some (26, true)⟩,
 ⟨some 28, .nck (.t 27) none, some (26, true)⟩,
 ⟨some 29, .fa (.t 28) 0 none, some (26, true)⟩,
 ⟨some 30, .ld (.t 29) none false none, some (26, true)⟩,
 ⟨some 31, .cp (.t 0), some (26, true)⟩,
 ⟨some 32, .nck (.t 31) none, some (26, true)⟩,
 ⟨some 33, .fa (.t 32) 1 none, some (26, true)⟩,
 ⟨some 34, .ld (.t 33) none false none, some (26, true)⟩,
 ⟨some 35, .idx (.t 30) (.t 34) none 1 false, some (26, true)⟩,
 ⟨some 36, .bin .neq (.t 35) (.c (.int .u8 34)), some (26, true)⟩,
 ⟨some 37, .pick (.t 26) (.t 36) (.c (.bool false)), none⟩])
 (.cond (.t 37) .skip
 (.exit 0)))
 (.blk 1 (.seq (.seq (.dreg [
 ⟨some 38, .cp (.t 0), none⟩,
 ⟨some 39, .nck (.t 38) none, none⟩,
 ⟨some 40, .fa (.t 39) 0 none, none⟩,
 ⟨some 41, .ld (.t 40) none false none, none⟩,
 ⟨some 42, .cp (.t 0), none⟩,
 ⟨some 43, .nck (.t 42) none, none⟩,
 ⟨some 44, .fa (.t 43) 1 none, none⟩,
 ⟨some 45, .ld (.t 44) none false none, none⟩,
 ⟨some 46, .idx (.t 41) (.t 45) none 1 false, none⟩,
 ⟨some 47, .bin .lss (.t 46) (.c (.int .u8 32)), none⟩,
 ⟨some 48, .cp (.t 47), none⟩,
 ⟨some 49, .cp (.t 0), some (48, false)⟩,
 ⟨some 50, .nck (.t 49) none, some (48, false)⟩,
 ⟨some 51, .fa (.t 50) 0 none, some (48, false)⟩,
 ⟨some 52, .ld (.t 51) none false none, some (48, false)⟩,
 ⟨some 53, .cp (.t 0), some (48, false)⟩,
 ⟨some 54, .nck (.t 53) none, some (48, false)⟩,
 ⟨some 55, .fa (.t 54) 1 none, some (48, false)⟩,
 ⟨some 56, .ld (.t 55) none false none, some (48, false)⟩,
 ⟨some 57, .idx (.t 52) (.t 56) none 1 false, some (48, false)⟩,
 ⟨some 58, .bin .gtr (.t 57) (.c (.int .u8 126)), some (48, false)⟩,
 ⟨some 59, .pick (.t 48) (.c (.bool true)) (.t 58), none⟩])
 (.cond (.t 59) (.reg [
 ⟨some 60, .mv (.t 3), none⟩,
 ⟨some 61, .call n_lexer_fail [((.t 60), false), ((.c (.int .i64 1)), false)] false, none⟩])
 .skip))
 (.reg [
 ⟨some 62, .mv (.t 0), none⟩,
 ⟨some 63, .nck (.t 62) none, none⟩,
 ⟨some 64, .fa (.t 63) 1 none, none⟩,
 ⟨some 65, .ld (.t 64) none false none, none⟩,
 ⟨some 66, .bin .add (.t 65) (.c (.int .i64 1)), none⟩,
 ⟨some 67, .nck (.t 62) none, none⟩,
 ⟨some 68, .fa (.t 67) 1 none, none⟩,
 ⟨none, .st (.t 68) (.t 66) 1 false none, none⟩]))))
@[go_sem] def mk_48 : List Bool := [K0,K0,K0,K0,K0,K0,K0,K0,K0,K0,K0,K0,K0,K0,K0,K0,K1,K1,K1,K1,K1,K1,K1,K1,K1,K1,K1,K1,K1,K1,K1,K1,K1,K1,K1,K1,K1,K1,K1,K1,K1,K1,K1,K1,K1,K1,K1,K1,K1,K1,K1,K1,K1,K1,K1,K1,K1,K1,K1,K1,K1,K1,K1,K1,K1,K1,K1,K1,K1]
def lexer_scanner_text_l1 : AC := .pre mk_48 lexer_scanner_text_l1b
@[go_sem] theorem lexer_scanner_text_l1_go : LoopRule lexer_scanner_text_l1 lexer_scanner_text_l1b mk_48 := loopRule
@[go_sem] theorem lexer_scanner_text_l1_lp : LpRule lexer_scanner_text_l1 lexer_scanner_text_l1b mk_48 := lpRule
def lexer_scanner_text_k1b : AC := (.seq (.seq (.dreg [
 ⟨some 69, .cp (.t 0), none⟩,
 ⟨some 70, .nck (.t 69) none, none⟩,
 ⟨some 71, .fa (.t 70) 1 none, none⟩,
 ⟨some 72, .ld (.t 71) none false none, none⟩,
 ⟨some 73, .cp (.t 0), none⟩,
 ⟨some 74, .nck (.t 73) none, none⟩,
 ⟨some 75, .fa (.t 74) 0 none, none⟩,
 ⟨some 76, .ld (.t 75) none false none, none⟩,
 ⟨some 77, .len true (.t 76) none, none⟩,
 ⟨some 78, .bin .eql (.t 72) (.t 77), none⟩])
 (.cond (.t 78) (.reg [
 ⟨some 79, .mv (.t 3), none⟩,
 ⟨some 80, .call n_lexer_fail [((.t 79), false), ((.c (.int .i64 1)), false)] false, none⟩])
 .skip))
 (.seq (.dreg [
 ⟨some 81, .cp (.t 0), none⟩,
 ⟨some 82, .nck (.t 81) none, none⟩,
 ⟨some 83, .fa (.t 82) 0 none, none⟩,
 ⟨some 84, .ld (.t 83) none false none, none⟩,
 ⟨some 85, .cp (.t 3), none⟩,
 ⟨some 86, .bin .add (.t 85) (.c (.int .i64 1)), none⟩,
 ⟨some 87, .cp (.t 0), none⟩,
 ⟨some 88, .nck (.t 87) none, none⟩,
 ⟨some 89, .fa (.t 88) 1 none, none⟩,
 ⟨some 90, .ld (.t 89) none false none, none⟩,
 ⟨some 91, .slc none (.t 84) (some (.t 86)) (some (.t 90)) none, none⟩,
 ⟨some 4, .cp (.t 91), none⟩])
 (.seq (.reg [
 ⟨some 92, .mv (.t 0), none⟩,
 ⟨some 93, .nck (.t 92) none, none⟩,
 ⟨some 94, .fa (.t 93) 1 none, none⟩,
 ⟨some 95, .ld (.t 94) none false none, none⟩,
 ⟨some 96, .bin .add (.t 95) (.c (.int .i64 1)), none⟩,
 ⟨some 97, .nck (.t 92) none, none⟩,
 ⟨some 98, .fa (.t 97) 1 none, none⟩,
 ⟨none, .st (.t 98) (.t 96) 1 false none, none⟩])
 (.seq (.seq (.reg [
 ⟨some 99, .mv (.t 4), none⟩,
 ⟨some 100, .len true (.t 99) none, none⟩,
 ⟨some 101, .bin .gtr (.t 100) (.c (.int .i64 200)), none⟩])
 (.cond (.t 101) (.reg [
 ⟨some 102, .mv (.t 3), none⟩,
 ⟨some 103, .call n_lexer_fail [((.t 102), false), ((.c (.int .i64 5)), false)] false, none⟩])
 .skip))
 (.seq (.reg [
 ⟨some 104, .mv (.t 3), none⟩,
 ⟨some 105, .mv (.t 4), none⟩,
 ⟨some 106, .build [(.int .i64 0), (.int .i64 0), (.int .i64 0), (.str [])] [(0, 1, (.c (.int .i64 3))), (2, 1, (.t 104)), (3, 1, (.t 105))], none⟩,
 ⟨none, .st (.t 2) (.t 106) 4 false (some 2), none⟩])
 .ret)))))
def lexer_scanner_text_k1 : AC := .pre mk_47 lexer_scanner_text_k1b
def a_lexer_scanner_text : AF := ⟨107, (.seq (.reg [
 ⟨some 2, .newbox [(.int .i64 0), (.int .i64 0), (.int .i64 0), (.str [])], none⟩])
 (.seq (.reg [
 ⟨some 5, .mv (.t 0), none⟩,
 ⟨some 6, .nck (.t 5) none, none⟩,
 ⟨some 7, .fa (.t 6) 1 none, none⟩,
 ⟨some 8, .ld (.t 7) none false none, none⟩,
 ⟨some 3, .mv (.t 8), none⟩])
 (.seq (.reg [
 ⟨some 9, .mv (.t 0), none⟩,
 ⟨some 10, .nck (.t 9) none, none⟩,
 ⟨some 11, .fa (.t 10) 1 none, none⟩,
 ⟨some 12, .ld (.t 11) none false none, none⟩,
 ⟨some 13, .bin .add (.t 12) (.c (.int .i64 1)), none⟩,
 ⟨some 14, .nck (.t 9) none, none⟩,
 ⟨some 15, .fa (.t 14) 1 none, none⟩,
 ⟨none, .st (.t 15) (.t 13) 1 false none, none⟩])
 (.seq (.blk 0 (.pre mk_46 (.loop lexer_scanner_text_l1)))
 lexer_scanner_text_k1)))), [.cell 2 (some 4)]⟩

/- (*billing/lexer.scanner).symbol -/
def a_lexer_scanner_symbol : AF := ⟨97, (.seq (.reg [
 ⟨some 2, .newbox [(.int .i64 0), (.int .i64 0), (.int .i64 0), (.str [])], none⟩])
 (.seq (.reg [
 ⟨some 5, .mv (.t 0), none⟩,
 ⟨some 6, .nck (.t 5) none, none⟩,
 ⟨some 7, .fa (.t 6) 1 none, none⟩,
 ⟨some 8, .ld (.t 7) none false none, none⟩,
 ⟨some 3, .mv (.t 8), none⟩])
 (.seq (.reg [
 ⟨some 4, .mv (.c (.int .i64 1)), none⟩])
 (.seq (.seq (.reg [
 ⟨some 9, .mv (.t 0), none⟩,
 ⟨some 10, .nck (.t 9) none, none⟩,
 ⟨some 11, .fa (.t 10) 0 none, none⟩,
 ⟨some 12, .ld (.t 11) none false none, none⟩,
 ⟨some 13, .mv (.t 3), none⟩,
 ⟨some 14, .idx (.t 12) (.t 13) none 1 false, none⟩])
 (.blk 0 (.seq (.seq (.reg [
 ⟨some 18, .bin .eql (.t 14) (.c (.int .u8 59)), none⟩,
 ⟨some 17, .mv (.t 18), none⟩])
 (.cond (.t 17) .skip
 (.seq (.reg [
 ⟨some 19, .bin .eql (.t 14) (.c (.int .u8 44)), none⟩,
 ⟨some 17, .mv (.t 19), none⟩])
 (.cond (.t 17) .skip
 (.seq (.reg [
 ⟨some 20, .bin .eql (.t 14) (.c (.int .u8 43)), none⟩,
 ⟨some 17, .mv (.t 20), none⟩])
 (.cond (.t 17) .skip
 (.seq (.reg [
 ⟨some 21, .bin .eql (.t 14) (.c (.int .u8 45)), none⟩,
 ⟨some 17, .mv (.t 21), none⟩])
 (.cond (.t 17) .skip
 (.seq (.reg [
 ⟨some 22, .bin .eql (.t 14) (.c (.int .u8 58)), none⟩,
 ⟨some 17, .mv (.t 22), none⟩])
 (.cond (.t 17) .skip
 (.seq (.reg [
 ⟨some 23, .bin .eql (.t 14) (.c (.int .u8 40)), none⟩,
 ⟨some 17, .mv (.t 23), none⟩])
 (.cond (.t 17) .skip
 (.seq (.reg [
 ⟨some 24, .bin .eql (.t 14) (.c (.int .u8 41)), none⟩,
 ⟨some 17, .mv (.t 24), none⟩])
 (.cond (.t 17) .skip
 (.seq (.reg [
 ⟨some 25, .bin .eql (.t 14) (.c (.int .u8 61)), none⟩,
 ⟨some 17, .mv (.t 25), none⟩])
 (.cond (.t 17) .skip
 (.seq (.reg [
 ⟨some 26, .bin .eql (.t 14) (.c (.int .u8 42)), none⟩,
 ⟨some 17, .mv (.t 26), none⟩])
 (.cond (.t 17) .skip
 (.seq (.reg [
 ⟨some 27, .bin .eql (.t 14) (.c (.int .u8 47)), none⟩,
 ⟨some 17, .mv (.t 27), none⟩])
 (.cond (.t 17) .skip
 (.reg [
 ⟨some 28, .bin .eql (.t 14) (.c (.int .u8 37)), none⟩,
 ⟨some 17, .mv (.t 28), none⟩])))))))))))))))))))))
 (.cond (.t 17) .skip
 (.seq (.reg [
 ⟨some 30, .bin .eql (.t 14) (.c (.int .u8 60)), none⟩,
 ⟨some 29, .mv (.t 30), none⟩])
 (.cond (.t 29) (.seq (.reg [
 ⟨some 31, .mv (.t 3), none⟩,
 ⟨some 32, .bin .add (.t 31) (.c (.int .i64 1)), none⟩,
 ⟨some 33, .mv (.t 0), none⟩,
 ⟨some 34, .nck (.t 33) none, none⟩,
 ⟨some 35, .fa (.t 34) 0 none, none⟩,
 ⟨some 36, .ld (.t 35) none false none, none⟩,
 ⟨some 37, .len true (.t 36) none, none⟩,
 ⟨some 38, .bin .lss (.t 32) (.t 37), none⟩,
 ⟨some 39, .mv (.t 38), none⟩,
 ⟨some 40, .mv (.t 0), some (39, true)⟩,
 ⟨some 41, .nck (.t 40) none, some (39, true)⟩,
 ⟨some 42, .fa (.t 41) 0 none, some (39, true)⟩,
 ⟨some 43, .ld (.t 42) none false none, some (39, true)⟩,
 ⟨some 44, .mv (.t 3), some (39, true)⟩,
 ⟨some 45, .bin .add (.t 44) (.c (.int .i64 1)), some (39, true)⟩,
 ⟨some 46, .idx (.t 43) (.t 45) none 1 false, some (39, true)⟩,
 ⟨some 47, .bin .eql (.t 46) (.c (.int .u8 62)), some (39, true)⟩,
 ⟨some 48, .mv (.t 47), some (39, true)⟩,
 ⟨some 49, .mv (.t 0), some (48, false)⟩,
 ⟨some 50, .nck (.t 49) none, some (48, false)⟩,
 ⟨some 51, .fa (.t 50) 0 none, some (48, false)⟩,
 ⟨some 52, .ld (.t 51) none false none, some (48, false)⟩,
 ⟨some 53, .mv (.t 3), some (48, false)⟩,
 ⟨some 54, .bin .add (.t 53) (.c (.int .i64 1)), some (48, false)⟩,
 ⟨some 55, .idx (.t 52) (.t 54) none 1 false, some (48, false)⟩,
 ⟨some 56, .bin .eql (.t 55) (.c (.int .u8 61)), some (48, false)⟩,
 ⟨some 57, .pick (.t 48) (.c (.bool true)) (.t 56), some (39, true)⟩,
 ⟨some 58, .pick (.t 39) (.t 57) (.c (.bool false)), none⟩])
 (.cond (.t 58) (.reg [
 ⟨some 4, .mv (.c (.int .i64 2)), none⟩])
 .skip))
 (.seq (.reg [
 ⟨some 60, .bin .eql (.t 14) (.c (.int .u8 62)), none⟩,
 ⟨some 59, .mv (.t 60), none⟩])
 (.cond (.t 59) (.seq (.reg [
 ⟨some 61, .mv (.t 3), none⟩,
 ⟨some 62, .bin .add (.t 61) (.c (.int .i64 1)), none⟩,
 ⟨some 63, .mv (.t 0), none⟩,
 ⟨some 64, .nck (.t 63) none, none⟩,
 ⟨some 65, .fa (.t 64) 0 none, none⟩,
 ⟨some 66, .ld (.t 65) none false none, none⟩,
 ⟨some 67, .len true (.t 66) none, none⟩,
 ⟨some 68, .bin .lss (.t 62) (.t 67), none⟩,
 ⟨some 69, .mv (.t 68), none⟩,
 ⟨some 70, .mv (.t 0), some (69, true)⟩,
 ⟨some 71, .nck (.t 70) none, some (69, true)⟩,
 ⟨some 72, .fa (.t 71) 0 none, some (69, true)⟩,
 ⟨some 73, .ld (.t 72) none false none, some (69, true)⟩,
 ⟨some 74, .mv (.t 3), some (69, true)⟩,
 ⟨some 75, .bin .add (.t 74) (.c (.int .i64 1)), some (69, true)⟩,
 ⟨some 76, .idx (.t 73) (.t 75) none 1 false, some (69, true)⟩,
 ⟨some 77, .bin .eql (.t 76) (.c (.int .u8 61)), some (69, true)⟩,
 ⟨some 78, .pick (.t 69) (.t 77) (.c (.bool false)), none⟩])
 (.cond (.t 78) (.reg [
 ⟨some 4, .mv (.c (.int .i64 2)), none⟩])
 .skip))
 (.reg [
 ⟨some 15, .mv (.t 3), none⟩,
 ⟨some 16, .call n_lexer_fail [((.t 15), false), ((.c (.int .i64 1)), false)] false, none⟩])))))))))
 (.seq (.reg [
 ⟨some 79, .mv (.t 0), none⟩,
 ⟨some 80, .mv (.t 3), none⟩,
 ⟨some 81, .mv (.t 4), none⟩,
 ⟨some 82, .bin .add (.t 80) (.t 81), none⟩,
 ⟨some 83, .nck (.t 79) none, none⟩,
 ⟨some 84, .fa (.t 83) 1 none, none⟩,
 ⟨none, .st (.t 84) (.t 82) 1 false none, none⟩])
 (.seq (.dreg [
 ⟨some 85, .cp (.t 3), none⟩,
 ⟨some 86, .cp (.t 0), none⟩,
 ⟨some 87, .nck (.t 86) none, none⟩,
 ⟨some 88, .fa (.t 87) 0 none, none⟩,
 ⟨some 89, .ld (.t 88) none false none, none⟩,
 ⟨some 90, .cp (.t 3), none⟩,
 ⟨some 91, .cp (.t 0), none⟩,
 ⟨some 92, .nck (.t 91) none, none⟩,
 ⟨some 93, .fa (.t 92) 1 none, none⟩,
 ⟨some 94, .ld (.t 93) none false none, none⟩,
 ⟨some 95, .slc none (.t 89) (some (.t 90)) (some (.t 94)) none, none⟩,
 ⟨some 96, .build [(.int .i64 0), (.int .i64 0), (.int .i64 0), (.str [])] [(0, 1, (.c (.int .i64 4))), (2, 1, (.t 85)), (3, 1, (.t 95))], none⟩,
 ⟨none, .st (.t 2) (.t 96) 4 false (some 2), none⟩])
 .ret)))))), [.cell 2 (some 4)]⟩

/- billing/billingref23.Lower -/
def a_billingref23_Lower : AF := ⟨9, (.seq (.reg [
 ⟨some 2, .mv (.c (.bool false)), none⟩])
 (.seq (.reg [
 ⟨some 3, .mv (.t 0), none⟩,
 ⟨some 4, .bin .geq (.t 3) (.c (.int .u8 97)), none⟩,
 ⟨some 5, .mv (.t 4), none⟩,
 ⟨some 6, .mv (.t 0), some (5, true)⟩,
 ⟨some 7, .bin .leq (.t 6) (.c (.int .u8 122)), some (5, true)⟩,
 ⟨some 8, .pick (.t 5) (.t 7) (.c (.bool false)), none⟩,
 ⟨some 2, .mv (.t 8), none⟩])
 .ret)), [.tmp 2]⟩
@[go_sem] def mk_49 : List Bool := [K0,K0,K0,K0,K0,K1,K1,K0,K1]
@[go_sem] def mk_50 : List Bool := [K0,K0,K0,K0,K0,K1,K1,K0,K1,K1,K1,K1,K1,K1,K1,K1,K1,K1,K1,K1,K1]

/- billing/billingref23.word -/
def billingref23_word_l1b : AC := (.seq (.seq (.reg [
 ⟨some 9, .mv (.t 7), none⟩,
 ⟨some 10, .mv (.t 0), none⟩,
 ⟨some 11, .len true (.t 10) none, none⟩,
 ⟨some 12, .bin .lss (.t 9) (.t 11), none⟩,
 ⟨some 13, .mv (.t 12), none⟩,
 ⟨some 14, .mv (.t 0), some (13, true)⟩,
 ⟨some 15, .mv (.t 7), some (13, true)⟩,
 ⟨some 16, .idx (.t 14) (.t 15) none 1 false, some (13, true)⟩,
 ⟨some 17, .call n_billingref23_inWord [((.t 16), false)] false, some (13, true)⟩,
 ⟨some 18, .pick (.t 13) (.t 17) (.c (.bool false)), none⟩])
 (.cond (.t 18) .skip
 (.exit 0)))
 (.blk 1 (.reg [
 ⟨some 19, .mv (.t 7), none⟩,
 ⟨some 20, .bin .add (.t 19) (.c (.int .i64 1)), none⟩,
 ⟨some 7, .mv (.t 20), none⟩])))
@[go_sem] def mk_51 : List Bool := [K0,K0,K0,K0,K0,K0,K0,K0,K0,K1,K1,K1,K1,K1,K1,K1,K1,K1,K1,K1,K1]
def billingref23_word_l1 : AC := .pre mk_51 billingref23_word_l1b
@[go_sem] theorem billingref23_word_l1_go : LoopRule billingref23_word_l1 billingref23_word_l1b mk_51 := loopRule
@[go_sem] theorem billingref23_word_l1_lp : LpRule billingref23_word_l1 billingref23_word_l1b mk_51 := lpRule
def billingref23_word_k1b : AC := (.seq (.seq (.reg [
 ⟨some 21, .mv (.t 7), none⟩,
 ⟨some 22, .mv (.t 1), none⟩,
 ⟨some 23, .bin .sub (.t 21) (.t 22), none⟩,
 ⟨some 24, .bin .gtr (.t 23) (.c (.int .i64 24)), none⟩])
 (.cond (.t 24) (.seq (.reg [
 ⟨some 25, .build [(.int .i64 0), (.int .i64 0), (.int .i64 0), (.str [])] [], none⟩,
 ⟨some 26, .mv (.t 1), none⟩,
 ⟨none, .st (.t 4) (.t 25) 4 false (some 4), none⟩,
 ⟨some 5, .mv (.t 26), none⟩,
 ⟨some 6, .mv (.c (.int .i64 5)), none⟩])
 .ret)
 .skip))
 (.seq (.reg [
 ⟨some 27, .mv (.t 1), none⟩,
 ⟨some 28, .mv (.t 0), none⟩,
 ⟨some 29, .mv (.t 1), none⟩,
 ⟨some 30, .mv (.t 7), none⟩,
 ⟨some 31, .slc none (.t 28) (some (.t 29)) (some (.t 30)) none, none⟩,
 ⟨some 32, .build [(.int .i64 0), (.int .i64 0), (.int .i64 0), (.str [])] [(0, 1, (.c (.int .i64 1))), (2, 1, (.t 27)), (3, 1, (.t 31))], none⟩,
 ⟨some 33, .mv (.t 7), none⟩,
 ⟨none, .st (.t 4) (.t 32) 4 false (some 4), none⟩,
 ⟨some 5, .mv (.t 33), none⟩,
 ⟨some 6, .mv (.c (.int .i64 0)), none⟩])
 .ret))
def billingref23_word_k1 : AC := .pre mk_50 billingref23_word_k1b
def a_billingref23_word : AF := ⟨34, (.seq (.reg [
 ⟨some 4, .newbox [(.int .i64 0), (.int .i64 0), (.int .i64 0), (.str [])], none⟩,
 ⟨some 5, .mv (.c (.int .i64 0)), none⟩,
 ⟨some 6, .mv (.c (.int .i64 0)), none⟩])
 (.seq (.reg [
 ⟨some 8, .mv (.t 1), none⟩,
 ⟨some 7, .mv (.t 8), none⟩])
 (.seq (.blk 0 (.pre mk_49 (.loop billingref23_word_l1)))
 billingref23_word_k1))), [.cell 4 (some 4), .tmp 5, .tmp 6]⟩

/- billing/billingref23.Digit -/
def a_billingref23_Digit : AF := ⟨9, (.seq (.reg [
 ⟨some 2, .mv (.c (.bool false)), none⟩])
 (.seq (.reg [
 ⟨some 3, .mv (.t 0), none⟩,
 ⟨some 4, .bin .geq (.t 3) (.c (.int .u8 48)), none⟩,
 ⟨some 5, .mv (.t 4), none⟩,
 ⟨some 6, .mv (.t 0), some (5, true)⟩,
 ⟨some 7, .bin .leq (.t 6) (.c (.int .u8 57)), some (5, true)⟩,
 ⟨some 8, .pick (.t 5) (.t 7) (.c (.bool false)), none⟩,
 ⟨some 2, .mv (.t 8), none⟩])
 .ret)), [.tmp 2]⟩

/- billing/billingref23.number -/
def billingref23_number_l1b : AC := (.seq (.seq (.reg [
 ⟨some 9, .mv (.t 7), none⟩,
 ⟨some 10, .mv (.t 0), none⟩,
 ⟨some 11, .len true (.t 10) none, none⟩,
 ⟨some 12, .bin .lss (.t 9) (.t 11), none⟩,
 ⟨some 13, .mv (.t 12), none⟩,
 ⟨some 14, .mv (.t 0), some (13, true)⟩,
 ⟨some 15, .mv (.t 7), some (13, true)⟩,
 ⟨some 16, .idx (.t 14) (.t 15) none 1 false, some (13, true)⟩,
 ⟨some 17, .call n_billingref23_Digit [((.t 16), false)] false, some (13, true)⟩,
 ⟨some 18, .pick (.t 13) (.t 17) (.c (.bool false)), none⟩])
 (.cond (.t 18) .skip
 (.exit 0)))
 (.blk 1 (.reg [
 ⟨some 19, .mv (.t 7), none⟩,
 ⟨some 20, .bin .add (.t 19) (.c (.int .i64 1)), none⟩,
 ⟨some 7, .mv (.t 20), none⟩])))
def billingref23_number_l1 : AC := .pre mk_51 billingref23_number_l1b
@[go_sem] theorem billingref23_number_l1_go : LoopRule billingref23_number_l1 billingref23_number_l1b mk_51 := loopRule
@[go_sem] theorem billingref23_number_l1_lp : LpRule billingref23_number_l1 billingref23_number_l1b mk_51 := lpRule
def billingref23_number_k1b : AC := (.seq (.seq (.reg [
 ⟨some 21, .mv (.t 7), none⟩,
 ⟨some 22, .mv (.t 1), none⟩,
 ⟨some 23, .bin .sub (.t 21) (.t 22), none⟩,
 ⟨some 24, .bin .gtr (.t 23) (.c (.int .i64 16)), none⟩])
 (.cond (.t 24) (.seq (.reg [
 ⟨some 25, .build [(.int .i64 0), (.int .i64 0), (.int .i64 0), (.str [])] [], none⟩,
 ⟨some 26, .mv (.t 1), none⟩,
 ⟨none, .st (.t 4) (.t 25) 4 false (some 4), none⟩,
 ⟨some 5, .mv (.t 26), none⟩,
 ⟨some 6, .mv (.c (.int .i64 5)), none⟩])
 .ret)
 .skip))
 (.seq (.seq (.reg [
 ⟨some 27, .mv (.t 7), none⟩,
 ⟨some 28, .mv (.t 0), none⟩,
 ⟨some 29, .len true (.t 28) none, none⟩,
 ⟨some 30, .bin .lss (.t 27) (.t 29), none⟩,
 ⟨some 31, .mv (.t 30), none⟩,
 ⟨some 32, .mv (.t 0), some (31, true)⟩,
 ⟨some 33, .mv (.t 7), some (31, true)⟩,
 ⟨some 34, .idx (.t 32) (.t 33) none 1 false, some (31, true)⟩,
 ⟨some 35, .call n_billingref23_Lower [((.t 34), false)] false, some (31, true)⟩,
 ⟨some 36, .pick (.t 31) (.t 35) (.c (.bool false)), none⟩])
 (.cond (.t 36) (.seq (.reg [
 ⟨some 37, .build [(.int .i64 0), (.int .i64 0), (.int .i64 0), (.str [])] [], none⟩,
 ⟨some 38, .mv (.t 1), none⟩,
 ⟨none, .st (.t 4) (.t 37) 4 false (some 4), none⟩,
 ⟨some 5, .mv (.t 38), none⟩,
 ⟨some 6, .mv (.c (.int .i64 1)), none⟩])
 .ret)
 .skip))
 (.seq (.dreg [
 ⟨some 39, .cp (.t 0), none⟩,
 ⟨some 40, .cp (.t 1), none⟩,
 ⟨some 41, .cp (.t 7), none⟩,
 ⟨some 42, .slc none (.t 39) (some (.t 40)) (some (.t 41)) none, none⟩,
 ⟨some 43, .call n_billingref23_Value [((.t 42), false)] false, none⟩,
 ⟨some 44, .cp (.t 1), none⟩,
 ⟨some 45, .cp (.t 0), none⟩,
 ⟨some 46, .cp (.t 1), none⟩,
 ⟨some 47, .cp (.t 7), none⟩,
 ⟨some 48, .slc none (.t 45) (some (.t 46)) (some (.t 47)) none, none⟩,
 ⟨some 49, .build [(.int .i64 0), (.int .i64 0), (.int .i64 0), (.str [])] [(0, 1, (.c (.int .i64 2))), (1, 1, (.t 43)), (2, 1, (.t 44)), (3, 1, (.t 48))], none⟩,
 ⟨some 50, .cp (.t 7), none⟩,
 ⟨none, .st (.t 4) (.t 49) 4 false (some 4), none⟩,
 ⟨some 5, .cp (.t 50), none⟩,
 ⟨some 6, .mv (.c (.int .i64 0)), none⟩])
 .ret)))
def billingref23_number_k1 : AC := .pre mk_50 billingref23_number_k1b
def a_billingref23_number : AF := ⟨51, (.seq (.reg [
 ⟨some 4, .newbox [(.int .i64 0), (.int .i64 0), (.int .i64 0), (.str [])], none⟩,
 ⟨some 5, .mv (.c (.int .i64 0)), none⟩,
 ⟨some 6, .mv (.c (.int .i64 0)), none⟩])
 (.seq (.reg [
 ⟨some 8, .mv (.t 1), none⟩,
 ⟨some 7, .mv (.t 8), none⟩])
 (.seq (.blk 0 (.pre mk_49 (.loop billingref23_number_l1)))
 billingref23_number_k1))), [.cell 4 (some 4), .tmp 5, .tmp 6]⟩
@[go_sem] def mk_52 : List Bool := [K0,K0,K0,K0,K0,K1,K1,K0,K1,K1]
@[go_sem] def mk_53 : List Bool := [K0,K0,K0,K0,K0,K1,K1,K0,K1,K1,K1,K1,K1,K1,K1,K1,K1,K1,K1,K1,K1,K1]

/- billing/billingref23.text -/
def billingref23_text_l1b : AC := (.seq (.seq (.reg [
 ⟨some 10, .mv (.t 7), none⟩,
 ⟨some 11, .mv (.t 0), none⟩,
 ⟨some 12, .len true (.t 11) none, none⟩,
 ⟨some 13, .bin .lss (.t 10) (.t 12), none⟩,
 ⟨some 14, .mv (.t 13), none⟩,
 ⟨some 15, .mv (.t 0), some (14, true)⟩,
 ⟨some 16, .mv (.t 7), some (14, true)⟩,
 ⟨some 17, .idx (.t 15) (.t 16) none 1 false, some (14, true)⟩,
 ⟨some 18, .call n_billingref23_inText [((.t 17), false)] false, some (14, true)⟩,
 ⟨some 19, .pick (.t 14) (.t 18) (.c (.bool false)), none⟩])
 (.cond (.t 19) .skip
 (.exit 0)))
 (.blk 1 (.reg [
 ⟨some 20, .mv (.t 7), none⟩,
 ⟨some 21, .bin .add (.t 20) (.c (.int .i64 1)), none⟩,
 ⟨some 7, .mv (.t 21), none⟩])))
@[go_sem] def mk_54 : List Bool := [K0,K0,K0,K0,K0,K0,K0,K0,K0,K0,K1,K1,K1,K1,K1,K1,K1,K1,K1,K1,K1,K1]
def billingref23_text_l1 : AC := .pre mk_54 billingref23_text_l1b
@[go_sem] theorem billingref23_text_l1_go : LoopRule billingref23_text_l1 billingref23_text_l1b mk_54 := loopRule
@[go_sem] theorem billingref23_text_l1_lp : LpRule billingref23_text_l1 billingref23_text_l1b mk_54 := lpRule
def billingref23_text_k1b : AC := (.seq (.seq (.reg [
 ⟨some 22, .mv (.t 7), none⟩,
 ⟨some 23, .mv (.t 0), none⟩,
 ⟨some 24, .len true (.t 23) none, none⟩,
 ⟨some 25, .bin .eql (.t 22) (.t 24), none⟩,
 ⟨some 26, .mv (.t 25), none⟩,
 ⟨some 27, .mv (.t 0), some (26, false)⟩,
 ⟨some 28, .mv (.t 7), some (26, false)⟩,
 ⟨some 29, .idx (.t 27) (.t 28) none 1 false, some (26, false)⟩,
 ⟨some 30, .bin .neq (.t 29) (.c (.int .u8 34)), some (26, false)⟩,
 ⟨some 31, .pick (.t 26) (.c (.bool true)) (.t 30), none⟩])
 (.cond (.t 31) (.seq (.reg [
 ⟨some 32, .build [(.int .i64 0), (.int .i64 0), (.int .i64 0), (.str [])] [], none⟩,
 ⟨some 33, .mv (.t 1), none⟩,
 ⟨none, .st (.t 4) (.t 32) 4 false (some 4), none⟩,
 ⟨some 5, .mv (.t 33), none⟩,
 ⟨some 6, .mv (.c (.int .i64 1)), none⟩])
 .ret)
 .skip))
 (.seq (.seq (.reg [
 ⟨some 34, .mv (.t 7), none⟩,
 ⟨some 35, .mv (.t 1), none⟩,
 ⟨some 36, .bin .sub (.t 34) (.t 35), none⟩,
 ⟨some 37, .bin .sub (.t 36) (.c (.int .i64 1)), none⟩,
 ⟨some 38, .bin .gtr (.t 37) (.c (.int .i64 200)), none⟩])
 (.cond (.t 38) (.seq (.reg [
 ⟨some 39, .build [(.int .i64 0), (.int .i64 0), (.int .i64 0), (.str [])] [], none⟩,
 ⟨some 40, .mv (.t 1), none⟩,
 ⟨none, .st (.t 4) (.t 39) 4 false (some 4), none⟩,
 ⟨some 5, .mv (.t 40), none⟩,
 ⟨some 6, .mv (.c (.int .i64 5)), none⟩])
 .ret)
 .skip))
 (.seq (.reg [
 ⟨some 41, .mv (.t 1), none⟩,
 ⟨some 42, .mv (.t 0), none⟩,
 ⟨some 43, .mv (.t 1), none⟩,
 ⟨some 44, .bin .add (.t 43) (.c (.int .i64 1)), none⟩,
 ⟨some 45, .mv (.t 7), none⟩,
 ⟨some 46, .slc none (.t 42) (some (.t 44)) (some (.t 45)) none, none⟩,
 ⟨some 47, .build [(.int .i64 0), (.int .i64 0), (.int .i64 0), (.str [])] [(0, 1, (.c (.int .i64 3))), (2, 1, (.t 41)), (3, 1, (.t 46))], none⟩,
 ⟨some 48, .mv (.t 7), none⟩,
 ⟨some 49, .bin .add (.t 48) (.c (.int .i64 1)), none⟩,
 ⟨none, .st (.t 4) (.t 47) 4 false (some 4), none⟩,
 ⟨some 5, .mv (.t 49), none⟩,
 ⟨some 6, .mv (.c (.int .i64 0)), none⟩])
 .ret)))
def billingref23_text_k1 : AC := .pre mk_53 billingref23_text_k1b
def a_billingref23_text : AF := ⟨50, (.seq (.reg [
 ⟨some 4, .newbox [(.int .i64 0), (.int .i64 0), (.int .i64 0), (.str [])], none⟩,
 ⟨some 5, .mv (.c (.int .i64 0)), none⟩,
 ⟨some 6, .mv (.c (.int .i64 0)), none⟩])
 (.seq (.reg [
 ⟨some 8, .mv (.t 1), none⟩,
 ⟨some 9, .bin .add (.t 8) (.c (.int .i64 1)), none⟩,
 ⟨some 7, .mv (.t 9), none⟩])
 (.seq (.blk 0 (.pre mk_52 (.loop billingref23_text_l1)))
 billingref23_text_k1))), [.cell 4 (some 4), .tmp 5, .tmp 6]⟩
@[go_sem] def mk_55 : List Bool := [K0,K0,K0,K0,K0,K0,K0,K0,K0,K0,K1]
@[go_sem] def mk_56 : List Bool := [K1,K0,K0,K0,K0,K1,K1,K1,K1,K1,K1,K1,K1,K1,K1,K1,K1,K1,K1,K1,K1,K1,K1,K1,K1,K1,K1,K1,K1,K1,K1,K1,K1,K1,K1,K1,K1,K1,K1,K1,K1,K1,K1,K1,K1,K1,K1,K1,K1,K1]

/- billing/billingref23.symbol -/
def billingref23_symbol_l1b : AC := (.seq (.seq (.reg [
 ⟨some 11, .mv (.t 8), none⟩,
 ⟨some 12, .al 7, none⟩,
 ⟨some 13, .len false (.t 12) (some 7), none⟩,
 ⟨some 14, .bin .lss (.t 11) (.t 13), none⟩])
 (.cond (.t 14) .skip
 (.exit 0)))
 (.seq (.blk 1 (.seq (.reg [
 ⟨some 17, .al 7, none⟩,
 ⟨some 18, .mv (.t 8), none⟩,
 ⟨some 19, .ia (.t 17) (.t 18) 1 none (some 7), none⟩,
 ⟨some 20, .ld (.t 19) none false none, none⟩,
 ⟨some 21, .len true (.t 20) none, none⟩,
 ⟨some 9, .mv (.t 21), none⟩])
 (.seq (.dreg [
 ⟨some 22, .cp (.t 1), none⟩,
 ⟨some 23, .cp (.t 9), none⟩,
 ⟨some 24, .bin .add (.t 22) (.t 23), none⟩,
 ⟨some 25, .cp (.t 0), none⟩,
 ⟨some 26, .len true (.t 25) none, none⟩,
 ⟨some 27, .bin .leq (.t 24) (.t 26), none⟩,
 ⟨some 28, .cp (.t 27), none⟩,
 ⟨some 29, .cp (.t 0), some (28, true)⟩,
 ⟨some 30, .cp (.t 1), some (28, true)⟩,
 ⟨some 31, .cp (.t 1), some (28, true)⟩,
 ⟨some 32, .cp (.t 9), some (28, true)⟩,
 ⟨some 33, .bin .add (.t 31) (.t 32), some (28, true)⟩,
 ⟨some 34, .slc none (.t 29) (some (.t 30)) (some (.t 33)) none, some (28, true)⟩,
 ⟨some 35, .al 7, some (28, true)⟩,
 ⟨some 36, .cp (.t 8), some (28, true)⟩,
 ⟨some 37, .ia (.t 35) (.t 36) 1 none (some 7), some (28, true)⟩,
 ⟨some 38, .ld (.t 37) none false none, some (28, true)⟩,
 ⟨some 39, .bin .eql (.t 34) (.t 38), some (28, true)⟩,
 ⟨some 40, .pick (.t 28) (.t 39) (.c (.bool false)), none⟩])
 (.cond (.t 40) (.seq (.reg [
 ⟨some 41, .mv (.t 1), none⟩,
 ⟨some 42, .al 7, none⟩,
 ⟨some 43, .mv (.t 8), none⟩,
 ⟨some 44, .ia (.t 42) (.t 43) 1 none (some 7), none⟩,
 ⟨some 45, .ld (.t 44) none false none, none⟩,
 ⟨some 46, .build [(.int .i64 0), (.int .i64 0), (.int .i64 0), (.str [])] [(0, 1, (.c (.int .i64 4))), (2, 1, (.t 41)), (3, 1, (.t 45))], none⟩,
 ⟨some 47, .mv (.t 1), none⟩,
 ⟨some 48, .mv (.t 9), none⟩,
 ⟨some 49, .bin .add (.t 47) (.t 48), none⟩,
 ⟨none, .st (.t 4) (.t 46) 4 false (some 4), none⟩,
 ⟨some 5, .mv (.t 49), none⟩,
 ⟨some 6, .mv (.c (.int .i64 0)), none⟩])
 .ret)
 .skip))))
 (.reg [
 ⟨some 15, .mv (.t 8), none⟩,
 ⟨some 16, .bin .add (.t 15) (.c (.int .i64 1)), none⟩,
 ⟨some 8, .mv (.t 16), none⟩])))
@[go_sem] def mk_57 : List Bool := [K0,K0,K0,K0,K0,K1,K1,K0,K0,K1,K0,K1,K1,K1,K1,K1,K1,K1,K1,K1,K1,K1,K1,K1,K1,K1,K1,K1,K1,K1,K1,K1,K1,K1,K1,K1,K1,K1,K1,K1,K1,K1,K1,K1,K1,K1,K1,K1,K1,K1]
def billingref23_symbol_l1 : AC := .pre mk_57 billingref23_symbol_l1b
@[go_sem] theorem billingref23_symbol_l1_go : LoopRule billingref23_symbol_l1 billingref23_symbol_l1b mk_57 := loopRule
@[go_sem] theorem billingref23_symbol_l1_lp : LpRule billingref23_symbol_l1 billingref23_symbol_l1b mk_57 := lpRule
def billingref23_symbol_k1b : AC := (.seq (.reg [
 ⟨some 50, .build [(.int .i64 0), (.int .i64 0), (.int .i64 0), (.str [])] [], none⟩,
 ⟨some 51, .mv (.t 1), none⟩,
 ⟨none, .st (.t 4) (.t 50) 4 false (some 4), none⟩,
 ⟨some 5, .mv (.t 51), none⟩,
 ⟨some 6, .mv (.c (.int .i64 1)), none⟩])
 .ret)
def billingref23_symbol_k1 : AC := .pre mk_56 billingref23_symbol_k1b
def a_billingref23_symbol : AF := ⟨52, (.seq (.reg [
 ⟨some 4, .newbox [(.int .i64 0), (.int .i64 0), (.int .i64 0), (.str [])], none⟩,
 ⟨some 5, .mv (.c (.int .i64 0)), none⟩,
 ⟨some 6, .mv (.c (.int .i64 0)), none⟩])
 (.seq (.reg [
 ⟨some 10, .call n_billingref23_Symbols [] false, none⟩,
 ⟨none, .cm 10, none⟩,
 ⟨some 7, .mv (.t 10), none⟩,
 ⟨none, .cm 7, none⟩])
 (.seq (.seq (.reg [
 ⟨some 8, .mv (.c (.int .i64 0)), none⟩])
 (.blk 0 (.pre mk_55 (.loop billingref23_symbol_l1))))
 billingref23_symbol_k1))), [.cell 4 (some 4), .tmp 5, .tmp 6]⟩

/- billing/lexer.fail -/
def a_lexer_fail : AF := ⟨8, (.reg [
 ⟨some 4, .mv (.t 0), none⟩,
 ⟨some 5, .mv (.t 1), none⟩,
 ⟨some 6, .build [(.int .i64 0), (.int .i64 0)] [(0, 1, (.t 4)), (1, 1, (.t 5))], none⟩,
 ⟨some 7, .mki 99 (.t 6), none⟩,
 ⟨none, .pan (.t 7), none⟩]), []⟩

/- billing/billingref23.inWord -/
def a_billingref23_inWord : AF := ⟨13, (.seq (.reg [
 ⟨some 2, .mv (.c (.bool false)), none⟩])
 (.seq (.reg [
 ⟨some 3, .mv (.t 0), none⟩,
 ⟨some 4, .call n_billingref23_Lower [((.t 3), false)] false, none⟩,
 ⟨some 5, .mv (.t 4), none⟩,
 ⟨some 6, .mv (.t 0), some (5, false)⟩,
 ⟨some 7, .call n_billingref23_Digit [((.t 6), false)] false, some (5, false)⟩,
 ⟨some 8, .pick (.t 5) (.c (.bool true)) (.t 7), none⟩,
 ⟨some 9, .mv (.t 8), none⟩,
 ⟨some 10, .mv (.t 0), some (9, false)⟩,
 ⟨some 11, .bin .eql (.t 10) (.c (.int .u8 45)), some (9, false)⟩,
 ⟨some 12, .pick (.t 9) (.c (.bool true)) (.t 11), none⟩,
 ⟨some 2, .mv (.t 12), none⟩])
 .ret)), [.tmp 2]⟩
@[go_sem] def mk_58 : List Bool := [K1]

/- billing/billingref23.Symbols -/
def a_billingref23_Symbols : AF := ⟨2, (.seq (.reg [
 ⟨some 0, .mv (.c (.sl true 1 [])), none⟩])
 (.pre mk_58 (.seq (.reg [
 ⟨some 1, .bsl 1 16 (.str []) [(0, (.c (.str [60, 62]))), (1, (.c (.str [60, 61]))), (2, (.c (.str [62, 61]))), (3, (.c (.str [59]))), (4, (.c (.str [44]))), (5, (.c (.str [43]))), (6, (.c (.str [45]))), (7, (.c (.str [58]))), (8, (.c (.str [40]))), (9, (.c (.str [41]))), (10, (.c (.str [61]))), (11, (.c (.str [60]))), (12, (.c (.str [62]))), (13, (.c (.str [42]))), (14, (.c (.str [47]))), (15, (.c (.str [37])))], none⟩,
 ⟨some 0, .mv (.t 1), none⟩])
 .ret))), [.tmp 0]⟩
def d_lexer_Scan : AFD := ⟨24, [p1_lexer_Scan, p2_lexer_Scan], 10, n_lexer_Scan_1, [.t 2, .t 3, .t 4], b_lexer_Scan, [.cell 2 none, .cell 3 none, .cell 4 none], 21, 6, 3, g_lexer_Scan_1⟩

def ft : FuncId → Option AF
 | 5 => some a_billinglaw23_LexerScans
 | 6 => some a_billinglaw23_LexerBack
 | 7 => some a_billinglaw23_LexerJoins
 | 8 => some a_billinglaw23_LexerPlaces
 | 9 => some a_billinglaw23_LexerWords
 | 10 => some a_billinglaw23_LexerLimits
 | 26 => some a_billinglaw23_awake
 | 28 => some a_billingref23_Scan
 | 29 => some a_billingref23_Same
 | 30 => some a_billingref23_Proper
 | 31 => some a_billingref23_Value
 | 32 => some a_billingref23_Source
 | 33 => some a_billingref23_Skip
 | 34 => some a_lexer_Quote
 | 35 => some a_lexer_Keyword
 | 36 => some a_billingref23_Keyword
 | 37 => some a_billingref23_Quote
 | 67 => some a_lexer_scanner_next
 | 68 => some a_billingref23_token
 | 69 => some a_billingref23_Has
 | 70 => some a_billingref23_inText
 | 113 => some a_lexer_scanner_blanks
 | 114 => some a_lexer_lower
 | 115 => some a_lexer_scanner_word
 | 116 => some a_lexer_digit
 | 117 => some a_lexer_scanner_number
 | 118 => some a_lexer_scanner_text
 | 119 => some a_lexer_scanner_symbol
 | 120 => some a_billingref23_Lower
 | 121 => some a_billingref23_word
 | 122 => some a_billingref23_Digit
 | 123 => some a_billingref23_number
 | 124 => some a_billingref23_text
 | 125 => some a_billingref23_symbol
 | 161 => some a_lexer_fail
 | 162 => some a_billingref23_inWord
 | 163 => some a_billingref23_Symbols
 | _ => none

end Go.Am
