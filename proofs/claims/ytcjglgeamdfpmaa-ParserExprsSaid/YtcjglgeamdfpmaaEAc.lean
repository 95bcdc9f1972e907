/- The functions as abstract code. -/
import Derived.Test.YtcjglgeamdfpmaaEAmA
namespace Go.Am
def n_billinglaw24_ParserExprs : FuncId := 13
def n_parser_Tariff : FuncId := 22
def n_parser_Expr : FuncId := 24
def n_lexer_Scan : FuncId := 27
def n_billingref23_Scan : FuncId := 28
def n_billingref23_Value : FuncId := 31
def n_billingref23_Skip : FuncId := 33
def n_lexer_Quote : FuncId := 34
def n_lexer_Keyword : FuncId := 35
def n_billingref23_Keyword : FuncId := 36
def n_billingref23_Quote : FuncId := 37
def n_billinglaw24_awake : FuncId := 41
def n_billingref24_Expr : FuncId := 42
def n_billingref24_SameExpr : FuncId := 43
def n_parser_Tariff_1 : FuncId := 56
def n_parser_caught : FuncId := 57
def n_parser_reader_tariff : FuncId := 58
def n_parser_reader_end : FuncId := 59
def n_parser_Expr_1 : FuncId := 63
def n_parser_reader_either : FuncId := 64
def n_lexer_Scan_1 : FuncId := 66
def n_lexer_scanner_next : FuncId := 67
def n_billingref23_token : FuncId := 68
def n_billingref23_Has : FuncId := 69
def n_billingref23_inText : FuncId := 70
def n_billingref24_Reader_expr : FuncId := 80
def n_billingref24_Reader_end : FuncId := 81
def n_billingref24_Reader_now : FuncId := 82
def n_parser_reader_needWord : FuncId := 96
def n_parser_reader_name : FuncId := 97
def n_parser_reader_date : FuncId := 98
def n_parser_reader_peek : FuncId := 99
def n_parser_reader_fixed : FuncId := 100
def n_parser_reader_needSymbol : FuncId := 101
def n_parser_reader_takeWord : FuncId := 102
def n_parser_reader_zone : FuncId := 103
def n_parser_reader_band : FuncId := 104
def n_parser_reader_rate : FuncId := 105
def n_parser_reader_discount : FuncId := 106
def n_parser_fail : FuncId := 107
def n_parser_reader_both : FuncId := 109
def n_parser_two : FuncId := 110
def n_lexer_scanner_blanks : FuncId := 113
def n_lexer_lower : FuncId := 114
def n_lexer_scanner_word : FuncId := 115
def n_lexer_digit : FuncId := 116
def n_lexer_scanner_number : FuncId := 117
def n_lexer_scanner_text : FuncId := 118
def n_lexer_scanner_symbol : FuncId := 119
def n_billingref23_Lower : FuncId := 120
def n_billingref23_word : FuncId := 121
def n_billingref23_Digit : FuncId := 122
def n_billingref23_number : FuncId := 123
def n_billingref23_text : FuncId := 124
def n_billingref23_symbol : FuncId := 125
def n_billingref24_Reader_both : FuncId := 142
def n_billingref24_Reader_accept : FuncId := 143
def n_billingref24_two : FuncId := 144
def n_billingref24_Reader_fail : FuncId := 145
def n_calendar_before : FuncId := 147
def n_calendar_days : FuncId := 148
def n_parser_reader_skip : FuncId := 149
def n_calendar_Day : FuncId := 150
def n_parser_reader_takeSymbol : FuncId := 151
def n_parser_reader_word : FuncId := 152
def n_parser_reader_digits : FuncId := 153
def n_parser_reader_slot : FuncId := 154
def n_parser_kind : FuncId := 155
def n_parser_reader_nameOrAny : FuncId := 156
def n_parser_reader_number : FuncId := 157
def n_parser_reader_step : FuncId := 158
def n_parser_reader_negated : FuncId := 160
def n_lexer_fail : FuncId := 161
def n_billingref23_inWord : FuncId := 162
def n_billingref23_Symbols : FuncId := 163
def n_billingref24_Place : FuncId := 170
def n_billingref24_Attributes : FuncId := 171
def n_billingref24_Reader_negated : FuncId := 172
def n_billingref24_Reader_is : FuncId := 173
def n_billingref24_Reader_next : FuncId := 174
def n_calendar_leap : FuncId := 175
def n_calendar_Length : FuncId := 176
def n_parser_reader_symbol : FuncId := 177
def n_parser_reader_day : FuncId := 178
def n_parser_reader_time : FuncId := 179
def n_parser_reader_compared : FuncId := 180
def n_billingref24_Reader_compared : FuncId := 181
def n_parser_weekday : FuncId := 182
def n_parser_reader_sum : FuncId := 183
def n_billingref24_Reader_sum : FuncId := 184
def n_parser_reader_product : FuncId := 185
def n_billingref24_Reader_product : FuncId := 186
def n_parser_reader_primary : FuncId := 187
def n_billingref24_Reader_primary : FuncId := 188
def n_parser_attribute : FuncId := 189
def n_billingref24_Reader_number : FuncId := 190
def n_billingref24_Reader_plain : FuncId := 191
def n_billingref24_Reader_expect : FuncId := 192
def n_billingref24_Reader_digits : FuncId := 193

/- billing/billinglaw24.ParserExprs -/
def a_billinglaw24_ParserExprs : AF := ⟨41, (.seq (.reg [
 ⟨some 2, .mv (.c (.bool false)), none⟩])
 (.seq (.seq (.reg [
 ⟨some 9, .mv (.t 0), none⟩,
 ⟨some 10, .len true (.t 9) none, none⟩,
 ⟨some 11, .bin .gtr (.t 10) (.c (.int .i64 600)), none⟩])
 (.cond (.t 11) (.seq (.reg [
 ⟨some 12, .call n_billinglaw24_awake [] false, none⟩,
 ⟨some 2, .mv (.t 12), none⟩])
 .ret)
 .skip))
 (.seq (.reg [
 ⟨some 14, .mv (.t 0), none⟩,
 ⟨some 15, .call n_parser_Expr [((.t 14), false)] false, none⟩,
 ⟨some 13, .mv (.t 15), none⟩,
 ⟨some 16, .ext 13 0, none⟩,
 ⟨some 17, .ext 13 1, none⟩,
 ⟨some 18, .ext 13 2, none⟩,
 ⟨some 3, .newbox [(.int .i64 0), (.int .i64 0), (.str []), (.sl false 4 [])], none⟩,
 ⟨none, .st (.t 3) (.t 16) 4 false (some 3), none⟩,
 ⟨some 4, .mv (.t 17), none⟩,
 ⟨some 5, .mv (.t 18), none⟩])
 (.seq (.reg [
 ⟨some 20, .mv (.t 0), none⟩,
 ⟨some 21, .call n_billingref24_Expr [((.t 20), false)] false, none⟩,
 ⟨some 19, .mv (.t 21), none⟩,
 ⟨some 22, .ext 19 0, none⟩,
 ⟨some 23, .ext 19 1, none⟩,
 ⟨some 24, .ext 19 2, none⟩,
 ⟨some 6, .newbox [(.int .i64 0), (.int .i64 0), (.str []), (.sl false 4 [])], none⟩,
 ⟨none, .st (.t 6) (.t 22) 4 false (some 6), none⟩,
 ⟨some 7, .mv (.t 23), none⟩,
 ⟨some 8, .mv (.t 24), none⟩])
 (.seq (.reg [
 ⟨some 25, .ld (.t 3) (some 4) false (some 3), none⟩,
 ⟨some 26, .ld (.t 6) (some 4) false (some 6), none⟩,
 ⟨some 27, .call n_billingref24_SameExpr [((.t 25), false), ((.t 26), false)] false, none⟩,
 ⟨some 28, .mv (.t 27), none⟩,
 ⟨some 29, .mv (.t 4), some (28, true)⟩,
 ⟨some 30, .mv (.t 7), some (28, true)⟩,
 ⟨some 31, .bin .eql (.t 29) (.t 30), some (28, true)⟩,
 ⟨some 32, .pick (.t 28) (.t 31) (.c (.bool false)), none⟩,
 ⟨some 33, .mv (.t 32), none⟩,
 ⟨some 34, .mv (.t 5), some (33, true)⟩,
 ⟨some 35, .mv (.t 8), some (33, true)⟩,
 ⟨some 36, .bin .eql (.t 34) (.t 35), some (33, true)⟩,
 ⟨some 37, .pick (.t 33) (.t 36) (.c (.bool false)), none⟩,
 ⟨some 38, .mv (.t 37), none⟩,
 ⟨some 39, .call n_billinglaw24_awake [] false, some (38, true)⟩,
 ⟨some 40, .pick (.t 38) (.t 39) (.c (.bool false)), none⟩,
 ⟨some 2, .mv (.t 40), none⟩])
 .ret))))), [.tmp 2]⟩

/- billing/parser.Tariff -/
def p1_parser_Tariff : AC := (.reg [
 ⟨some 2, .newobj [(.str []), (.int .i64 0), (.bool false), (.sl false 2 []), (.sl false 2 []), (.sl false 5 []), (.sl false 6 [])], none⟩,
 ⟨some 3, .newobj [(.int .i64 0)], none⟩,
 ⟨some 4, .newobj [(.int .i64 0)], none⟩])
def p2_parser_Tariff : AC := (.reg [
 ⟨some 10, .mv (.t 0), none⟩,
 ⟨some 11, .call n_lexer_Scan [((.t 10), false)] false, none⟩,
 ⟨some 9, .mv (.t 11), none⟩,
 ⟨some 12, .ext 9 0, none⟩,
 ⟨none, .cm 12, none⟩,
 ⟨some 13, .ext 9 1, none⟩,
 ⟨some 14, .ext 9 2, none⟩,
 ⟨some 5, .mv (.t 12), none⟩,
 ⟨none, .cm 5, none⟩,
 ⟨some 6, .mv (.t 13), none⟩,
 ⟨some 7, .mv (.t 14), none⟩])
def p3_parser_Tariff : AC := (.seq (.reg [
 ⟨some 15, .mv (.t 7), none⟩,
 ⟨some 16, .bin .neq (.t 15) (.c (.int .i64 0)), none⟩])
 (.cond (.t 16) (.seq (.reg [
 ⟨some 17, .build [(.str []), (.int .i64 0), (.bool false), (.sl false 2 []), (.sl false 2 []), (.sl false 5 []), (.sl false 6 [])] [], none⟩,
 ⟨some 18, .mv (.t 6), none⟩,
 ⟨some 19, .mv (.t 7), none⟩,
 ⟨none, .st (.t 2) (.t 17) 7 false none, none⟩,
 ⟨none, .st (.t 3) (.t 18) 1 false none, none⟩,
 ⟨none, .st (.t 4) (.t 19) 1 false none, none⟩])
 .ret)
 .skip))
def b_parser_Tariff : AC := (.seq (.reg [
 ⟨none, .cm 5, none⟩,
 ⟨some 21, .cp (.t 5), none⟩,
 ⟨none, .cm 21, none⟩,
 ⟨some 22, .build [(.sl false 4 []), (.int .i64 0)] [(0, 1, (.t 21))], none⟩,
 ⟨some 23, .boxo (.t 22), none⟩,
 ⟨some 8, .mv (.t 23), none⟩])
 (.seq (.reg [
 ⟨some 24, .mv (.t 8), none⟩,
 ⟨some 25, .call n_parser_reader_tariff [((.t 24), false)] true, none⟩,
 ⟨none, .st (.t 2) (.t 25) 7 false none, none⟩])
 (.seq (.reg [
 ⟨some 26, .mv (.t 8), none⟩,
 ⟨some 27, .call n_parser_reader_end [((.t 26), false)] true, none⟩])
 (.seq (.reg [
 ⟨some 28, .ld (.t 2) (some 7) false none, none⟩,
 ⟨none, .st (.t 2) (.t 28) 7 false none, none⟩,
 ⟨none, .st (.t 3) (.c (.int .i64 0)) 1 false none, none⟩,
 ⟨none, .st (.t 4) (.c (.int .i64 0)) 1 false none, none⟩])
 .ret))))

/- billing/parser.Expr -/
def p1_parser_Expr : AC := (.reg [
 ⟨some 2, .newobj [(.int .i64 0), (.int .i64 0), (.str []), (.sl false 4 [])], none⟩,
 ⟨some 3, .newobj [(.int .i64 0)], none⟩,
 ⟨some 4, .newobj [(.int .i64 0)], none⟩])
def p2_parser_Expr : AC := (.reg [
 ⟨some 10, .mv (.t 0), none⟩,
 ⟨some 11, .call n_lexer_Scan [((.t 10), false)] false, none⟩,
 ⟨some 9, .mv (.t 11), none⟩,
 ⟨some 12, .ext 9 0, none⟩,
 ⟨none, .cm 12, none⟩,
 ⟨some 13, .ext 9 1, none⟩,
 ⟨some 14, .ext 9 2, none⟩,
 ⟨some 5, .mv (.t 12), none⟩,
 ⟨none, .cm 5, none⟩,
 ⟨some 6, .mv (.t 13), none⟩,
 ⟨some 7, .mv (.t 14), none⟩])
def p3_parser_Expr : AC := (.seq (.reg [
 ⟨some 15, .mv (.t 7), none⟩,
 ⟨some 16, .bin .neq (.t 15) (.c (.int .i64 0)), none⟩])
 (.cond (.t 16) (.seq (.reg [
 ⟨some 17, .build [(.int .i64 0), (.int .i64 0), (.str []), (.sl false 4 [])] [], none⟩,
 ⟨some 18, .mv (.t 6), none⟩,
 ⟨some 19, .mv (.t 7), none⟩,
 ⟨none, .st (.t 2) (.t 17) 4 false none, none⟩,
 ⟨none, .st (.t 3) (.t 18) 1 false none, none⟩,
 ⟨none, .st (.t 4) (.t 19) 1 false none, none⟩])
 .ret)
 .skip))
def b_parser_Expr : AC := (.seq (.reg [
 ⟨none, .cm 5, none⟩,
 ⟨some 21, .cp (.t 5), none⟩,
 ⟨none, .cm 21, none⟩,
 ⟨some 22, .build [(.sl false 4 []), (.int .i64 0)] [(0, 1, (.t 21))], none⟩,
 ⟨some 23, .boxo (.t 22), none⟩,
 ⟨some 8, .mv (.t 23), none⟩])
 (.seq (.reg [
 ⟨some 24, .mv (.t 8), none⟩,
 ⟨some 25, .call n_parser_reader_either [((.t 24), false)] true, none⟩,
 ⟨none, .st (.t 2) (.t 25) 4 false none, none⟩])
 (.seq (.reg [
 ⟨some 26, .mv (.t 8), none⟩,
 ⟨some 27, .call n_parser_reader_end [((.t 26), false)] true, none⟩])
 (.seq (.reg [
 ⟨some 28, .ld (.t 2) (some 4) false none, none⟩,
 ⟨none, .st (.t 2) (.t 28) 4 false none, none⟩,
 ⟨none, .st (.t 3) (.c (.int .i64 0)) 1 false none, none⟩,
 ⟨none, .st (.t 4) (.c (.int .i64 0)) 1 false none, none⟩])
 .ret))))
@[go_sem] def mk_1 : List Bool := [K1,K0,K0,K0,K0,K0,K0,K1,K1,K1,K1,K1,K1,K1]

/- billing/lexer.Scan -/
def lexer_Scan_l1b : AC := (.blk 1 (.seq (.reg [
 ⟨some 14, .mv (.t 5), none⟩,
 ⟨some 15, .call n_lexer_scanner_next [((.t 14), false)] true, none⟩,
 ⟨some 6, .newbox [(.int .i64 0), (.int .i64 0), (.int .i64 0), (.str [])], none⟩,
 ⟨none, .st (.t 6) (.t 15) 4 false (some 6), none⟩])
 (.seq (.reg [
 ⟨some 16, .ld (.t 2) none true none, none⟩,
 ⟨some 17, .ld (.t 6) (some 4) false (some 6), none⟩,
 ⟨some 18, .bsl 4 1 (.agg [(.int .i64 0), (.int .i64 0), (.int .i64 0), (.str [])]) [(0, (.t 17))], none⟩,
 ⟨some 19, .app 4 40 (.t 16) (.t 18) none, none⟩,
 ⟨none, .st (.t 2) (.t 19) 1 true none, none⟩])
 (.seq (.reg [
 ⟨some 20, .fa (.t 6) 0 (some 6), none⟩,
 ⟨some 21, .ld (.t 20) none false (some 6), none⟩,
 ⟨some 22, .bin .eql (.t 21) (.c (.int .i64 0)), none⟩])
 (.cond (.t 22) (.seq (.reg [
 ⟨none, .cmh (.t 2), none⟩,
 ⟨some 23, .ld (.t 2) none false none, none⟩,
 ⟨none, .st (.t 2) (.t 23) 1 false none, none⟩,
 ⟨none, .st (.t 3) (.c (.int .i64 0)) 1 false none, none⟩,
 ⟨none, .st (.t 4) (.c (.int .i64 0)) 1 false none, none⟩])
 .ret)
 .skip)))))
@[go_sem] def mk_2 : List Bool := [K0,K0,K0,K0,K0,K0,K1,K0,K0,K0,K0,K0,K0,K0,K1,K1,K1,K1,K1,K1,K1,K1,K1,K1]
def lexer_Scan_l1 : AC := .pre mk_2 lexer_Scan_l1b
@[go_sem] theorem lexer_Scan_l1_go : LoopRule lexer_Scan_l1 lexer_Scan_l1b mk_2 := loopRule
@[go_sem] theorem lexer_Scan_l1_lp : LpRule lexer_Scan_l1 lexer_Scan_l1b mk_2 := lpRule
def p1_lexer_Scan : AC := (.reg [
 ⟨some 2, .newobj [(.sl true 4 [])], none⟩,
 ⟨some 3, .newobj [(.int .i64 0)], none⟩,
 ⟨some 4, .newobj [(.int .i64 0)], none⟩])
def p2_lexer_Scan : AC := (.seq (.reg [
 ⟨some 7, .mv (.t 0), none⟩,
 ⟨some 8, .len true (.t 7) none, none⟩,
 ⟨some 9, .bin .gtr (.t 8) (.c (.int .i64 65536)), none⟩])
 (.cond (.t 9) (.seq (.reg [
 ⟨none, .st (.t 2) (.c (.sl false 4 [])) 1 false none, none⟩,
 ⟨none, .st (.t 3) (.c (.int .i64 0)) 1 false none, none⟩,
 ⟨none, .st (.t 4) (.c (.int .i64 5)) 1 false none, none⟩])
 .ret)
 .skip))
def b_lexer_Scan : AC := (.seq (.reg [
 ⟨some 11, .mv (.t 0), none⟩,
 ⟨some 12, .build [(.str []), (.int .i64 0)] [(0, 1, (.t 11))], none⟩,
 ⟨some 13, .boxo (.t 12), none⟩,
 ⟨some 5, .mv (.t 13), none⟩])
 (.blk 0 (.pre mk_1 (.loop lexer_Scan_l1))))
@[go_sem] def mk_3 : List Bool := [K0,K0,K1]
@[go_sem] def mk_4 : List Bool := [K0,K0,K0,K0,K0,K1]
@[go_sem] def mk_5 : List Bool := [K0,K0,K0,K0,K0,K0,K0,K0,K0,K0,K1,K1,K1,K1,K1]
@[go_sem] def mk_6 : List Bool := [K0,K0,K1,K1,K1,K0,K1,K1,K1,K1,K1,K1,K1,K1,K1,K1,K1,K1,K1,K1,K1,K1,K1,K1,K1,K1,K1,K1,K1,K1,K1,K1,K1,K1,K1,K1,K1]

/- billing/billingref23.Scan -/
def billingref23_Scan_l1b : AC := (.seq (.seq (.reg [
 ⟨some 15, .mv (.t 6), none⟩,
 ⟨some 16, .mv (.t 0), none⟩,
 ⟨some 17, .len true (.t 16) none, none⟩,
 ⟨some 18, .bin .lss (.t 15) (.t 17), none⟩])
 (.pre mk_3 (.cond (.t 18) .skip
 (.exit 0))))
 (.pre mk_3 (.blk 1 (.seq (.reg [
 ⟨some 20, .mv (.t 0), none⟩,
 ⟨some 21, .mv (.t 6), none⟩,
 ⟨some 22, .call n_billingref23_token [((.t 20), false), ((.t 21), false)] false, none⟩,
 ⟨some 19, .mv (.t 22), none⟩,
 ⟨some 23, .ext 19 0, none⟩,
 ⟨some 24, .ext 19 1, none⟩,
 ⟨some 25, .ext 19 2, none⟩,
 ⟨some 7, .newbox [(.int .i64 0), (.int .i64 0), (.int .i64 0), (.str [])], none⟩,
 ⟨none, .st (.t 7) (.t 23) 4 false (some 7), none⟩,
 ⟨some 8, .mv (.t 24), none⟩,
 ⟨some 9, .mv (.t 25), none⟩])
 (.seq (.seq (.reg [
 ⟨some 26, .mv (.t 9), none⟩,
 ⟨some 27, .bin .neq (.t 26) (.c (.int .i64 0)), none⟩])
 (.cond (.t 27) (.seq (.reg [
 ⟨some 28, .mv (.t 6), none⟩,
 ⟨some 29, .mv (.t 9), none⟩,
 ⟨some 2, .mv (.c (.sl true 4 [])), none⟩,
 ⟨some 3, .mv (.t 28), none⟩,
 ⟨some 4, .mv (.t 29), none⟩])
 (.pre mk_4 .ret))
 .skip))
 (.pre mk_3 (.seq (.reg [
 ⟨some 30, .mv (.t 5), none⟩,
 ⟨some 31, .ld (.t 7) (some 4) false (some 7), none⟩,
 ⟨some 32, .bsl 4 1 (.agg [(.int .i64 0), (.int .i64 0), (.int .i64 0), (.str [])]) [(0, (.t 31))], none⟩,
 ⟨some 33, .app 4 40 (.t 30) (.t 32) none, none⟩,
 ⟨some 5, .mv (.t 33), none⟩])
 (.reg [
 ⟨some 34, .mv (.t 0), none⟩,
 ⟨some 35, .mv (.t 8), none⟩,
 ⟨some 36, .call n_billingref23_Skip [((.t 34), false), ((.t 35), false)] false, none⟩,
 ⟨some 6, .mv (.t 36), none⟩]))))))))
@[go_sem] def mk_7 : List Bool := [K0,K0,K1,K1,K1,K0,K0,K1,K1,K1,K0,K0,K0,K0,K0,K1,K1,K1,K1,K1,K1,K1,K1,K1,K1,K1,K1,K1,K1,K1,K1,K1,K1,K1,K1,K1,K1]
def billingref23_Scan_l1 : AC := .pre mk_7 billingref23_Scan_l1b
@[go_sem] theorem billingref23_Scan_l1_go : LoopRule billingref23_Scan_l1 billingref23_Scan_l1b mk_7 := loopRule
@[go_sem] theorem billingref23_Scan_l1_lp : LpRule billingref23_Scan_l1 billingref23_Scan_l1b mk_7 := lpRule
def billingref23_Scan_k1b : AC := (.seq (.reg [
 ⟨some 37, .mv (.t 5), none⟩,
 ⟨some 38, .mv (.t 0), none⟩,
 ⟨some 39, .len true (.t 38) none, none⟩,
 ⟨some 40, .build [(.int .i64 0), (.int .i64 0), (.int .i64 0), (.str [])] [(0, 1, (.c (.int .i64 0))), (2, 1, (.t 39))], none⟩,
 ⟨some 41, .bsl 4 1 (.agg [(.int .i64 0), (.int .i64 0), (.int .i64 0), (.str [])]) [(0, (.t 40))], none⟩,
 ⟨some 42, .app 4 40 (.t 37) (.t 41) none, none⟩,
 ⟨some 2, .mv (.t 42), none⟩,
 ⟨some 3, .mv (.c (.int .i64 0)), none⟩,
 ⟨some 4, .mv (.c (.int .i64 0)), none⟩])
 (.pre mk_4 .ret))
def billingref23_Scan_k1 : AC := .pre mk_6 billingref23_Scan_k1b
def a_billingref23_Scan : AF := ⟨43, (.seq (.reg [
 ⟨some 2, .mv (.c (.sl true 4 [])), none⟩,
 ⟨some 3, .mv (.c (.int .i64 0)), none⟩,
 ⟨some 4, .mv (.c (.int .i64 0)), none⟩])
 (.pre mk_3 (.seq (.seq (.reg [
 ⟨some 10, .mv (.t 0), none⟩,
 ⟨some 11, .len true (.t 10) none, none⟩,
 ⟨some 12, .bin .gtr (.t 11) (.c (.int .i64 65536)), none⟩])
 (.cond (.t 12) (.seq (.reg [
 ⟨some 2, .mv (.c (.sl true 4 [])), none⟩,
 ⟨some 3, .mv (.c (.int .i64 0)), none⟩,
 ⟨some 4, .mv (.c (.int .i64 5)), none⟩])
 .ret)
 .skip))
 (.pre mk_3 (.seq (.reg [
 ⟨some 5, .mv (.c (.sl true 4 [])), none⟩])
 (.seq (.reg [
 ⟨some 13, .mv (.t 0), none⟩,
 ⟨some 14, .call n_billingref23_Skip [((.t 13), false), ((.c (.int .i64 0)), false)] false, none⟩,
 ⟨some 6, .mv (.t 14), none⟩])
 (.seq (.blk 0 (.pre mk_5 (.loop billingref23_Scan_l1)))
 billingref23_Scan_k1))))))), [.tmp 2, .tmp 3, .tmp 4]⟩
@[go_sem] def mk_8 : List Bool := [K1,K0,K1,K0,K1,K1,K1,K1,K1,K1,K1,K1,K1,K1,K1,K1,K1,K1,K1,K1,K1,K1,K1]

/- billing/billingref23.Value -/
def billingref23_Value_l1b : AC := (.seq (.seq (.reg [
 ⟨some 5, .mv (.t 4), none⟩,
 ⟨some 6, .mv (.t 0), none⟩,
 ⟨some 7, .len true (.t 6) none, none⟩,
 ⟨some 8, .bin .lss (.t 5) (.t 7), none⟩,
 ⟨some 9, .mv (.t 8), none⟩,
 ⟨some 10, .mv (.t 4), some (9, true)⟩,
 ⟨some 11, .bin .lss (.t 10) (.c (.int .i64 16)), some (9, true)⟩,
 ⟨some 12, .pick (.t 9) (.t 11) (.c (.bool false)), none⟩])
 (.cond (.t 12) .skip
 (.exit 0)))
 (.seq (.blk 1 (.reg [
 ⟨some 15, .mv (.t 3), none⟩,
 ⟨some 16, .bin .mul (.c (.int .i64 10)) (.t 15), none⟩,
 ⟨some 17, .mv (.t 0), none⟩,
 ⟨some 18, .mv (.t 4), none⟩,
 ⟨some 19, .idx (.t 17) (.t 18) none 1 false, none⟩,
 ⟨some 20, .bin .sub (.t 19) (.c (.int .u8 48)), none⟩,
 ⟨some 21, .cvi .i64 (.t 20), none⟩,
 ⟨some 22, .bin .add (.t 16) (.t 21), none⟩,
 ⟨some 3, .mv (.t 22), none⟩]))
 (.reg [
 ⟨some 13, .mv (.t 4), none⟩,
 ⟨some 14, .bin .add (.t 13) (.c (.int .i64 1)), none⟩,
 ⟨some 4, .mv (.t 14), none⟩])))
@[go_sem] def mk_9 : List Bool := [K0,K0,K0,K0,K0,K1,K1,K1,K1,K1,K1,K1,K1,K1,K1,K1,K1,K1,K1,K1,K1,K1,K1]
def billingref23_Value_l1 : AC := .pre mk_9 billingref23_Value_l1b
@[go_sem] theorem billingref23_Value_l1_go : LoopRule billingref23_Value_l1 billingref23_Value_l1b mk_9 := loopRule
@[go_sem] theorem billingref23_Value_l1_lp : LpRule billingref23_Value_l1 billingref23_Value_l1b mk_9 := lpRule
def billingref23_Value_k1b : AC := (.seq (.reg [
 ⟨some 23, .mv (.t 3), none⟩,
 ⟨some 2, .mv (.t 23), none⟩])
 .ret)
def billingref23_Value_k1 : AC := .pre mk_8 billingref23_Value_k1b
def a_billingref23_Value : AF := ⟨24, (.seq (.reg [
 ⟨some 2, .mv (.c (.int .i64 0)), none⟩])
 (.seq (.reg [
 ⟨some 3, .mv (.c (.int .i64 0)), none⟩])
 (.seq (.seq (.reg [
 ⟨some 4, .mv (.c (.int .i64 0)), none⟩])
 (.blk 0 (.pre mk_3 (.loop billingref23_Value_l1))))
 billingref23_Value_k1))), [.tmp 2]⟩
@[go_sem] def mk_10 : List Bool := [K0,K0,K0,K0,K1,K1,K1,K1,K1,K1,K1,K1,K1,K0,K0,K0,K0,K0,K0,K0,K0,K0,K0,K0,K0,K1,K1,K1,K1,K1,K1,K1,K1,K1,K1,K1,K1,K1,K1,K1,K1,K1,K1,K1]
@[go_sem] def mk_11 : List Bool := [K0,K0,K0,K0,K1,K1,K1,K1,K1,K1,K1,K1,K1,K1,K1,K1,K1,K1,K1,K1,K1,K1,K1,K1,K1,K1,K1,K1,K1,K1,K1,K1,K1,K1,K1,K1,K1,K1,K1,K1,K1,K1,K1,K1]
@[go_sem] def mk_12 : List Bool := [K1,K0,K0,K0,K1,K1,K1,K1,K1,K1,K1,K1,K1,K1,K1,K1,K1,K1,K1,K1,K1,K1,K1,K1,K1,K1,K1,K1,K1,K1,K1,K1,K1,K1,K1,K1,K1,K1,K1,K1,K1,K1,K1,K1]

/- billing/billingref23.Skip -/
def billingref23_Skip_l1b : AC := (.seq (.seq (.reg [
 ⟨some 13, .mv (.t 1), none⟩,
 ⟨some 14, .mv (.t 0), none⟩,
 ⟨some 15, .len true (.t 14) none, none⟩,
 ⟨some 16, .bin .lss (.t 13) (.t 15), none⟩,
 ⟨some 17, .mv (.t 16), none⟩,
 ⟨some 18, .mv (.t 0), some (17, true)⟩,
 ⟨some 19, .mv (.t 1), some (17, true)⟩,
 ⟨some 20, .idx (.t 18) (.t 19) none 1 false, some (17, true)⟩,
 ⟨some 21, .bin .neq (.t 20) (.c (.int .u8 10)), some (17, true)⟩,
 ⟨some 22, .pick (.t 17) (.t 21) (.c (.bool false)), none⟩])
 (.cond (.t 22) .skip
 (.exit 2)))
 (.blk 3 (.reg [
 ⟨some 23, .mv (.t 1), none⟩,
 ⟨some 24, .bin .add (.t 23) (.c (.int .i64 1)), none⟩,
 ⟨some 1, .mv (.t 24), none⟩])))
@[go_sem] def mk_13 : List Bool := [K0,K0,K0,K0,K0,K0,K0,K0,K0,K0,K0,K0,K0,K1,K1,K1,K1,K1,K1,K1,K1,K1,K1,K1,K1]
def billingref23_Skip_l1 : AC := .pre mk_13 billingref23_Skip_l1b
@[go_sem] theorem billingref23_Skip_l1_go : LoopRule billingref23_Skip_l1 billingref23_Skip_l1b mk_13 := loopRule
@[go_sem] theorem billingref23_Skip_l1_lp : LpRule billingref23_Skip_l1 billingref23_Skip_l1b mk_13 := lpRule
def billingref23_Skip_k1b : AC := (.exit 1)
def billingref23_Skip_k1 : AC := .pre mk_11 billingref23_Skip_k1b
def billingref23_Skip_k2b : AC := (.seq (.seq (.reg [
 ⟨some 25, .mv (.t 0), none⟩,
 ⟨some 26, .mv (.t 1), none⟩,
 ⟨some 27, .idx (.t 25) (.t 26) none 1 false, none⟩,
 ⟨some 28, .bin .neq (.t 27) (.c (.int .u8 32)), none⟩,
 ⟨some 29, .mv (.t 28), none⟩,
 ⟨some 30, .mv (.t 0), some (29, true)⟩,
 ⟨some 31, .mv (.t 1), some (29, true)⟩,
 ⟨some 32, .idx (.t 30) (.t 31) none 1 false, some (29, true)⟩,
 ⟨some 33, .bin .neq (.t 32) (.c (.int .u8 9)), some (29, true)⟩,
 ⟨some 34, .pick (.t 29) (.t 33) (.c (.bool false)), none⟩,
 ⟨some 35, .mv (.t 34), none⟩,
 ⟨some 36, .mv (.t 0), some (35, true)⟩,
 ⟨some 37, .mv (.t 1), some (35, true)⟩,
 ⟨some 38, .idx (.t 36) (.t 37) none 1 false, some (35, true)⟩,
 ⟨some 39, .bin .neq (.t 38) (.c (.int .u8 10)), some (35, true)⟩,
 ⟨some 40, .pick (.t 35) (.t 39) (.c (.bool false)), none⟩])
 (.cond (.t 40) (.seq (.reg [
 ⟨some 41, .mv (.t 1), none⟩,
 ⟨some 4, .mv (.t 41), none⟩])
 .ret)
 .skip))
 (.reg [
 ⟨some 42, .mv (.t 1), none⟩,
 ⟨some 43, .bin .add (.t 42) (.c (.int .i64 1)), none⟩,
 ⟨some 1, .mv (.t 43), none⟩]))
def billingref23_Skip_k2 : AC := .pre mk_11 billingref23_Skip_k2b
def billingref23_Skip_l2b : AC := (.seq (.seq (.reg [
 ⟨some 5, .mv (.t 1), none⟩,
 ⟨some 6, .mv (.t 0), none⟩,
 ⟨some 7, .len true (.t 6) none, none⟩,
 ⟨some 8, .bin .lss (.t 5) (.t 7), none⟩])
 (.cond (.t 8) .skip
 (.exit 0)))
 (.blk 1 (.seq (.seq (.reg [
 ⟨some 9, .mv (.t 0), none⟩,
 ⟨some 10, .mv (.t 1), none⟩,
 ⟨some 11, .idx (.t 9) (.t 10) none 1 false, none⟩,
 ⟨some 12, .bin .eql (.t 11) (.c (.int .u8 35)), none⟩])
 (.cond (.t 12) (.seq (.blk 2 (.pre mk_10 (.loop billingref23_Skip_l1)))
 billingref23_Skip_k1)
 .skip))
 billingref23_Skip_k2)))
def billingref23_Skip_l2 : AC := .pre mk_11 billingref23_Skip_l2b
@[go_sem] theorem billingref23_Skip_l2_go : LoopRule billingref23_Skip_l2 billingref23_Skip_l2b mk_11 := loopRule
@[go_sem] theorem billingref23_Skip_l2_lp : LpRule billingref23_Skip_l2 billingref23_Skip_l2b mk_11 := lpRule
def billingref23_Skip_k3b : AC := (.seq (.reg [
 ⟨some 44, .mv (.t 1), none⟩,
 ⟨some 4, .mv (.t 44), none⟩])
 .ret)
def billingref23_Skip_k3 : AC := .pre mk_12 billingref23_Skip_k3b
def a_billingref23_Skip : AF := ⟨45, (.seq (.reg [
 ⟨some 4, .mv (.c (.int .i64 0)), none⟩])
 (.seq (.blk 0 (.loop billingref23_Skip_l2))
 billingref23_Skip_k3)), [.tmp 4]⟩
@[go_sem] def mk_14 : List Bool := [K0,K0,K0,K0,K1,K1,K1]
@[go_sem] def mk_15 : List Bool := [K0,K0,K1,K1,K1,K1,K1,K1,K1,K1,K1,K1,K1,K1,K1,K1,K1,K1,K1,K1,K1,K1,K1,K1,K1,K1,K1,K1,K1]

/- billing/lexer.Quote -/
def lexer_Quote_l1b : AC := (.seq (.seq (.reg [
 ⟨some 7, .mv (.t 3), none⟩,
 ⟨some 8, .mv (.t 0), none⟩,
 ⟨some 9, .len true (.t 8) none, none⟩,
 ⟨some 10, .bin .lss (.t 7) (.t 9), none⟩])
 (.cond (.t 10) .skip
 (.exit 0)))
 (.seq (.blk 1 (.seq (.reg [
 ⟨some 13, .mv (.t 0), none⟩,
 ⟨some 14, .mv (.t 3), none⟩,
 ⟨some 15, .idx (.t 13) (.t 14) none 1 false, none⟩,
 ⟨some 16, .bin .lss (.t 15) (.c (.int .u8 32)), none⟩,
 ⟨some 17, .mv (.t 16), none⟩,
 ⟨some 18, .mv (.t 0), some (17, false)⟩,
 ⟨some 19, .mv (.t 3), some (17, false)⟩,
 ⟨some 20, .idx (.t 18) (.t 19) none 1 false, some (17, false)⟩,
 ⟨some 21, .bin .gtr (.t 20) (.c (.int .u8 126)), some (17, false)⟩,
 ⟨some 22, .pick (.t 17) (.c (.bool true)) (.t 21), none⟩,
 ⟨some 23, .mv (.t 22), none⟩,
 ⟨some 24, .mv (.t 0), some (23, false)⟩,
 ⟨some 25, .mv (.t 3), some (23, false)⟩,
 ⟨some 26, .idx (.t 24) (.t 25) none 1 false, some (23, false)⟩,
 ⟨some 27, .bin .eql (.t 26) (.c (.int .u8 34)), some (23, false)⟩,
 ⟨some 28, .pick (.t 23) (.c (.bool true)) (.t 27), none⟩])
 (.cond (.t 28) (.seq (.reg [
 ⟨some 2, .mv (.c (.str [])), none⟩])
 .ret)
 .skip)))
 (.reg [
 ⟨some 11, .mv (.t 3), none⟩,
 ⟨some 12, .bin .add (.t 11) (.c (.int .i64 1)), none⟩,
 ⟨some 3, .mv (.t 12), none⟩])))
@[go_sem] def mk_16 : List Bool := [K0,K0,K1,K0,K0,K0,K0,K1,K1,K1,K1,K1,K1,K1,K1,K1,K1,K1,K1,K1,K1,K1,K1,K1,K1,K1,K1,K1,K1]
def lexer_Quote_l1 : AC := .pre mk_16 lexer_Quote_l1b
@[go_sem] theorem lexer_Quote_l1_go : LoopRule lexer_Quote_l1 lexer_Quote_l1b mk_16 := loopRule
@[go_sem] theorem lexer_Quote_l1_lp : LpRule lexer_Quote_l1 lexer_Quote_l1b mk_16 := lpRule
def lexer_Quote_k1b : AC := (.seq (.reg [
 ⟨some 29, .mv (.t 0), none⟩,
 ⟨some 30, .bin .add (.c (.str [34])) (.t 29), none⟩,
 ⟨some 31, .bin .add (.t 30) (.c (.str [34])), none⟩,
 ⟨some 2, .mv (.t 31), none⟩])
 .ret)
def lexer_Quote_k1 : AC := .pre mk_15 lexer_Quote_k1b
def a_lexer_Quote : AF := ⟨32, (.seq (.reg [
 ⟨some 2, .mv (.c (.str [])), none⟩])
 (.seq (.seq (.reg [
 ⟨some 4, .mv (.t 0), none⟩,
 ⟨some 5, .len true (.t 4) none, none⟩,
 ⟨some 6, .bin .gtr (.t 5) (.c (.int .i64 200)), none⟩])
 (.cond (.t 6) (.seq (.reg [
 ⟨some 2, .mv (.c (.str [])), none⟩])
 .ret)
 .skip))
 (.seq (.seq (.reg [
 ⟨some 3, .mv (.c (.int .i64 0)), none⟩])
 (.blk 0 (.pre mk_14 (.loop lexer_Quote_l1))))
 lexer_Quote_k1))), [.tmp 2]⟩

/- billing/lexer.Keyword -/
def a_lexer_Keyword : AF := ⟨48, (.seq (.reg [
 ⟨some 2, .mv (.c (.bool false)), none⟩])
 (.seq (.seq (.reg [
 ⟨some 3, .mv (.t 0), none⟩])
 (.blk 0 (.seq (.seq (.reg [
 ⟨some 5, .bin .eql (.t 3) (.c (.str [116, 97, 114, 105, 102, 102])), none⟩,
 ⟨some 4, .mv (.t 5), none⟩])
 (.cond (.t 4) .skip
 (.seq (.reg [
 ⟨some 6, .bin .eql (.t 3) (.c (.str [102, 114, 111, 109])), none⟩,
 ⟨some 4, .mv (.t 6), none⟩])
 (.cond (.t 4) .skip
 (.seq (.reg [
 ⟨some 7, .bin .eql (.t 3) (.c (.str [115, 112, 108, 105, 116])), none⟩,
 ⟨some 4, .mv (.t 7), none⟩])
 (.cond (.t 4) .skip
 (.seq (.reg [
 ⟨some 8, .bin .eql (.t 3) (.c (.str [122, 111, 110, 101])), none⟩,
 ⟨some 4, .mv (.t 8), none⟩])
 (.cond (.t 4) .skip
 (.seq (.reg [
 ⟨some 9, .bin .eql (.t 3) (.c (.str [98, 97, 110, 100])), none⟩,
 ⟨some 4, .mv (.t 9), none⟩])
 (.cond (.t 4) .skip
 (.seq (.reg [
 ⟨some 10, .bin .eql (.t 3) (.c (.str [111, 116, 104, 101, 114, 119, 105, 115, 101])), none⟩,
 ⟨some 4, .mv (.t 10), none⟩])
 (.cond (.t 4) .skip
 (.seq (.reg [
 ⟨some 11, .bin .eql (.t 3) (.c (.str [114, 97, 116, 101])), none⟩,
 ⟨some 4, .mv (.t 11), none⟩])
 (.cond (.t 4) .skip
 (.seq (.reg [
 ⟨some 12, .bin .eql (.t 3) (.c (.str [116, 111])), none⟩,
 ⟨some 4, .mv (.t 12), none⟩])
 (.cond (.t 4) .skip
 (.seq (.reg [
 ⟨some 13, .bin .eql (.t 3) (.c (.str [97, 110, 121])), none⟩,
 ⟨some 4, .mv (.t 13), none⟩])
 (.cond (.t 4) .skip
 (.seq (.reg [
 ⟨some 14, .bin .eql (.t 3) (.c (.str [105, 110])), none⟩,
 ⟨some 4, .mv (.t 14), none⟩])
 (.cond (.t 4) .skip
 (.seq (.reg [
 ⟨some 15, .bin .eql (.t 3) (.c (.str [115, 101, 116, 117, 112])), none⟩,
 ⟨some 4, .mv (.t 15), none⟩])
 (.cond (.t 4) .skip
 (.seq (.reg [
 ⟨some 16, .bin .eql (.t 3) (.c (.str [117, 112, 116, 111])), none⟩,
 ⟨some 4, .mv (.t 16), none⟩])
 (.cond (.t 4) .skip
 (.seq (.reg [
 ⟨some 17, .bin .eql (.t 3) (.c (.str [112, 101, 114])), none⟩,
 ⟨some 4, .mv (.t 17), none⟩])
 (.cond (.t 4) .skip
 (.reg [
 ⟨some 18, .bin .eql (.t 3) (.c (.str [97, 116])), none⟩,
 ⟨some 4, .mv (.t 18), none⟩])))))))))))))))))))))))))))
 (.cond (.t 4) (.seq (.reg [
 ⟨some 2, .mv (.c (.bool true)), none⟩])
 .ret)
 (.seq (.seq (.reg [
 ⟨some 20, .bin .eql (.t 3) (.c (.str [100, 105, 115, 99, 111, 117, 110, 116])), none⟩,
 ⟨some 19, .mv (.t 20), none⟩])
 (.cond (.t 19) .skip
 (.seq (.reg [
 ⟨some 21, .bin .eql (.t 3) (.c (.str [112, 111, 105, 110, 116, 115])), none⟩,
 ⟨some 19, .mv (.t 21), none⟩])
 (.cond (.t 19) .skip
 (.seq (.reg [
 ⟨some 22, .bin .eql (.t 3) (.c (.str [119, 104, 101, 110])), none⟩,
 ⟨some 19, .mv (.t 22), none⟩])
 (.cond (.t 19) .skip
 (.seq (.reg [
 ⟨some 23, .bin .eql (.t 3) (.c (.str [97, 110, 100])), none⟩,
 ⟨some 19, .mv (.t 23), none⟩])
 (.cond (.t 19) .skip
 (.seq (.reg [
 ⟨some 24, .bin .eql (.t 3) (.c (.str [111, 114])), none⟩,
 ⟨some 19, .mv (.t 24), none⟩])
 (.cond (.t 19) .skip
 (.reg [
 ⟨some 25, .bin .eql (.t 3) (.c (.str [110, 111, 116])), none⟩,
 ⟨some 19, .mv (.t 25), none⟩])))))))))))
 (.cond (.t 19) (.seq (.reg [
 ⟨some 2, .mv (.c (.bool true)), none⟩])
 .ret)
 (.seq (.seq (.reg [
 ⟨some 27, .bin .eql (.t 3) (.c (.str [109, 111, 110])), none⟩,
 ⟨some 26, .mv (.t 27), none⟩])
 (.cond (.t 26) .skip
 (.seq (.reg [
 ⟨some 28, .bin .eql (.t 3) (.c (.str [116, 117, 101])), none⟩,
 ⟨some 26, .mv (.t 28), none⟩])
 (.cond (.t 26) .skip
 (.seq (.reg [
 ⟨some 29, .bin .eql (.t 3) (.c (.str [119, 101, 100])), none⟩,
 ⟨some 26, .mv (.t 29), none⟩])
 (.cond (.t 26) .skip
 (.seq (.reg [
 ⟨some 30, .bin .eql (.t 3) (.c (.str [116, 104, 117])), none⟩,
 ⟨some 26, .mv (.t 30), none⟩])
 (.cond (.t 26) .skip
 (.seq (.reg [
 ⟨some 31, .bin .eql (.t 3) (.c (.str [102, 114, 105])), none⟩,
 ⟨some 26, .mv (.t 31), none⟩])
 (.cond (.t 26) .skip
 (.seq (.reg [
 ⟨some 32, .bin .eql (.t 3) (.c (.str [115, 97, 116])), none⟩,
 ⟨some 26, .mv (.t 32), none⟩])
 (.cond (.t 26) .skip
 (.seq (.reg [
 ⟨some 33, .bin .eql (.t 3) (.c (.str [115, 117, 110])), none⟩,
 ⟨some 26, .mv (.t 33), none⟩])
 (.cond (.t 26) .skip
 (.reg [
 ⟨some 34, .bin .eql (.t 3) (.c (.str [104, 111, 108, 105, 100, 97, 121])), none⟩,
 ⟨some 26, .mv (.t 34), none⟩])))))))))))))))
 (.cond (.t 26) (.seq (.reg [
 ⟨some 2, .mv (.c (.bool true)), none⟩])
 .ret)
 (.seq (.seq (.reg [
 ⟨some 36, .bin .eql (.t 3) (.c (.str [118, 111, 105, 99, 101])), none⟩,
 ⟨some 35, .mv (.t 36), none⟩])
 (.cond (.t 35) .skip
 (.seq (.reg [
 ⟨some 37, .bin .eql (.t 3) (.c (.str [116, 101, 120, 116])), none⟩,
 ⟨some 35, .mv (.t 37), none⟩])
 (.cond (.t 35) .skip
 (.seq (.reg [
 ⟨some 38, .bin .eql (.t 3) (.c (.str [100, 97, 116, 97])), none⟩,
 ⟨some 35, .mv (.t 38), none⟩])
 (.cond (.t 35) .skip
 (.reg [
 ⟨some 39, .bin .eql (.t 3) (.c (.str [99, 111, 110, 116, 101, 110, 116])), none⟩,
 ⟨some 35, .mv (.t 39), none⟩])))))))
 (.cond (.t 35) (.seq (.reg [
 ⟨some 2, .mv (.c (.bool true)), none⟩])
 .ret)
 (.seq (.seq (.reg [
 ⟨some 41, .bin .eql (.t 3) (.c (.str [107, 105, 110, 100])), none⟩,
 ⟨some 40, .mv (.t 41), none⟩])
 (.cond (.t 40) .skip
 (.seq (.reg [
 ⟨some 42, .bin .eql (.t 3) (.c (.str [117, 110, 105, 116, 115])), none⟩,
 ⟨some 40, .mv (.t 42), none⟩])
 (.cond (.t 40) .skip
 (.seq (.reg [
 ⟨some 43, .bin .eql (.t 3) (.c (.str [119, 101, 101, 107, 100, 97, 121])), none⟩,
 ⟨some 40, .mv (.t 43), none⟩])
 (.cond (.t 40) .skip
 (.seq (.reg [
 ⟨some 44, .bin .eql (.t 3) (.c (.str [109, 105, 110, 117, 116, 101])), none⟩,
 ⟨some 40, .mv (.t 44), none⟩])
 (.cond (.t 40) .skip
 (.seq (.reg [
 ⟨some 45, .bin .eql (.t 3) (.c (.str [116, 111, 116, 97, 108])), none⟩,
 ⟨some 40, .mv (.t 45), none⟩])
 (.cond (.t 40) .skip
 (.seq (.reg [
 ⟨some 46, .bin .eql (.t 3) (.c (.str [115, 112, 101, 110, 116])), none⟩,
 ⟨some 40, .mv (.t 46), none⟩])
 (.cond (.t 40) .skip
 (.reg [
 ⟨some 47, .bin .eql (.t 3) (.c (.str [102, 97, 109, 105, 108, 121])), none⟩,
 ⟨some 40, .mv (.t 47), none⟩])))))))))))))
 (.cond (.t 40) (.seq (.reg [
 ⟨some 2, .mv (.c (.bool true)), none⟩])
 .ret)
 .skip))))))))))))
 (.seq (.reg [
 ⟨some 2, .mv (.c (.bool false)), none⟩])
 .ret))), [.tmp 2]⟩

/- billing/billingref23.Keyword -/
def a_billingref23_Keyword : AF := ⟨6, (.seq (.reg [
 ⟨some 2, .mv (.c (.bool false)), none⟩])
 (.seq (.reg [
 ⟨some 3, .bsl 1 39 (.str []) [(0, (.c (.str [116, 97, 114, 105, 102, 102]))), (1, (.c (.str [102, 114, 111, 109]))), (2, (.c (.str [115, 112, 108, 105, 116]))), (3, (.c (.str [122, 111, 110, 101]))), (4, (.c (.str [98, 97, 110, 100]))), (5, (.c (.str [111, 116, 104, 101, 114, 119, 105, 115, 101]))), (6, (.c (.str [114, 97, 116, 101]))), (7, (.c (.str [116, 111]))), (8, (.c (.str [97, 110, 121]))), (9, (.c (.str [105, 110]))), (10, (.c (.str [115, 101, 116, 117, 112]))), (11, (.c (.str [117, 112, 116, 111]))), (12, (.c (.str [112, 101, 114]))), (13, (.c (.str [97, 116]))), (14, (.c (.str [100, 105, 115, 99, 111, 117, 110, 116]))), (15, (.c (.str [112, 111, 105, 110, 116, 115]))), (16, (.c (.str [119, 104, 101, 110]))), (17, (.c (.str [97, 110, 100]))), (18, (.c (.str [111, 114]))), (19, (.c (.str [110, 111, 116]))), (20, (.c (.str [109, 111, 110]))), (21, (.c (.str [116, 117, 101]))), (22, (.c (.str [119, 101, 100]))), (23, (.c (.str [116, 104, 117]))), (24, (.c (.str [102, 114, 105]))), (25, (.c (.str [115, 97, 116]))), (26, (.c (.str [115, 117, 110]))), (27, (.c (.str [104, 111, 108, 105, 100, 97, 121]))), (28, (.c (.str [118, 111, 105, 99, 101]))), (29, (.c (.str [116, 101, 120, 116]))), (30, (.c (.str [100, 97, 116, 97]))), (31, (.c (.str [99, 111, 110, 116, 101, 110, 116]))), (32, (.c (.str [107, 105, 110, 100]))), (33, (.c (.str [117, 110, 105, 116, 115]))), (34, (.c (.str [119, 101, 101, 107, 100, 97, 121]))), (35, (.c (.str [109, 105, 110, 117, 116, 101]))), (36, (.c (.str [116, 111, 116, 97, 108]))), (37, (.c (.str [115, 112, 101, 110, 116]))), (38, (.c (.str [102, 97, 109, 105, 108, 121])))], none⟩,
 ⟨some 4, .mv (.t 0), none⟩,
 ⟨none, .cm 3, none⟩,
 ⟨some 5, .call n_billingref23_Has [((.t 3), false), ((.t 4), false)] false, none⟩,
 ⟨some 2, .mv (.t 5), none⟩])
 .ret)), [.tmp 2]⟩
@[go_sem] def mk_17 : List Bool := [K0,K0,K1,K1,K1,K1,K1,K1,K1,K1,K1,K1,K1,K1,K1]

/- billing/billingref23.Quote -/
def billingref23_Quote_l1b : AC := (.seq (.seq (.reg [
 ⟨some 4, .mv (.t 3), none⟩,
 ⟨some 5, .mv (.t 0), none⟩,
 ⟨some 6, .len true (.t 5) none, none⟩,
 ⟨some 7, .bin .lss (.t 4) (.t 6), none⟩])
 (.cond (.t 7) .skip
 (.exit 0)))
 (.seq (.blk 1 (.seq (.reg [
 ⟨some 10, .mv (.t 0), none⟩,
 ⟨some 11, .mv (.t 3), none⟩,
 ⟨some 12, .idx (.t 10) (.t 11) none 1 false, none⟩,
 ⟨some 13, .call n_billingref23_inText [((.t 12), false)] false, none⟩,
 ⟨some 14, .un .not (.t 13), none⟩])
 (.cond (.t 14) (.seq (.reg [
 ⟨some 2, .mv (.c (.str [])), none⟩])
 .ret)
 .skip)))
 (.reg [
 ⟨some 8, .mv (.t 3), none⟩,
 ⟨some 9, .bin .add (.t 8) (.c (.int .i64 1)), none⟩,
 ⟨some 3, .mv (.t 9), none⟩])))
@[go_sem] def mk_18 : List Bool := [K0,K0,K1,K0,K1,K1,K1,K1,K1,K1,K1,K1,K1,K1,K1]
def billingref23_Quote_l1 : AC := .pre mk_18 billingref23_Quote_l1b
@[go_sem] theorem billingref23_Quote_l1_go : LoopRule billingref23_Quote_l1 billingref23_Quote_l1b mk_18 := loopRule
@[go_sem] theorem billingref23_Quote_l1_lp : LpRule billingref23_Quote_l1 billingref23_Quote_l1b mk_18 := lpRule
def billingref23_Quote_k1b : AC := (.seq (.seq (.reg [
 ⟨some 15, .mv (.t 0), none⟩,
 ⟨some 16, .len true (.t 15) none, none⟩,
 ⟨some 17, .bin .gtr (.t 16) (.c (.int .i64 200)), none⟩])
 (.cond (.t 17) (.seq (.reg [
 ⟨some 2, .mv (.c (.str [])), none⟩])
 .ret)
 .skip))
 (.seq (.reg [
 ⟨some 18, .mv (.t 0), none⟩,
 ⟨some 19, .bin .add (.c (.str [34])) (.t 18), none⟩,
 ⟨some 20, .bin .add (.t 19) (.c (.str [34])), none⟩,
 ⟨some 2, .mv (.t 20), none⟩])
 .ret))
def billingref23_Quote_k1 : AC := .pre mk_17 billingref23_Quote_k1b
def a_billingref23_Quote : AF := ⟨21, (.seq (.reg [
 ⟨some 2, .mv (.c (.str [])), none⟩])
 (.seq (.seq (.reg [
 ⟨some 3, .mv (.c (.int .i64 0)), none⟩])
 (.blk 0 (.loop billingref23_Quote_l1)))
 billingref23_Quote_k1)), [.tmp 2]⟩

/- billing/billinglaw24.awake -/
def a_billinglaw24_awake : AF := ⟨96, (.seq (.reg [
 ⟨some 0, .mv (.c (.bool false)), none⟩])
 (.seq (.reg [
 ⟨some 14, .call n_parser_Tariff [((.c (.str [116, 97, 114, 105, 102, 102, 32, 98, 97, 115, 105, 99, 32, 102, 114, 111, 109, 32, 50, 48, 48, 48, 45, 48, 49, 45, 48, 50, 59])), false)] false, none⟩,
 ⟨some 13, .mv (.t 14), none⟩,
 ⟨some 15, .ext 13 0, none⟩,
 ⟨some 16, .ext 13 1, none⟩,
 ⟨some 17, .ext 13 2, none⟩,
 ⟨some 1, .newbox [(.str []), (.int .i64 0), (.bool false), (.sl false 2 []), (.sl false 2 []), (.sl false 5 []), (.sl false 6 [])], none⟩,
 ⟨none, .st (.t 1) (.t 15) 7 false (some 1), none⟩,
 ⟨some 2, .mv (.t 16), none⟩,
 ⟨some 3, .mv (.t 17), none⟩])
 (.seq (.reg [
 ⟨some 19, .call n_parser_Expr [((.c (.str [117, 110, 105, 116, 115, 32, 62, 32, 54, 48])), false)] false, none⟩,
 ⟨some 18, .mv (.t 19), none⟩,
 ⟨some 20, .ext 18 0, none⟩,
 ⟨some 21, .ext 18 1, none⟩,
 ⟨some 22, .ext 18 2, none⟩,
 ⟨some 4, .newbox [(.int .i64 0), (.int .i64 0), (.str []), (.sl false 4 [])], none⟩,
 ⟨none, .st (.t 4) (.t 20) 4 false (some 4), none⟩,
 ⟨some 5, .mv (.t 21), none⟩,
 ⟨some 6, .mv (.t 22), none⟩])
 (.seq (.reg [
 ⟨some 24, .call n_parser_Expr [((.c (.str [49, 32, 60, 32, 50, 32, 60, 32, 51])), false)] false, none⟩,
 ⟨some 23, .mv (.t 24), none⟩,
 ⟨some 25, .ext 23 0, none⟩,
 ⟨some 26, .ext 23 1, none⟩,
 ⟨some 27, .ext 23 2, none⟩,
 ⟨some 7, .newbox [(.int .i64 0), (.int .i64 0), (.str []), (.sl false 4 [])], none⟩,
 ⟨none, .st (.t 7) (.t 25) 4 false (some 7), none⟩,
 ⟨some 8, .mv (.t 26), none⟩,
 ⟨some 9, .mv (.t 27), none⟩])
 (.seq (.reg [
 ⟨some 29, .call n_parser_Tariff [((.c (.str [116, 97, 114, 105, 102, 102, 32, 97, 32, 102, 114, 111, 109, 32, 50, 48, 50, 54, 45, 48, 50, 45, 51, 48, 59])), false)] false, none⟩,
 ⟨some 28, .mv (.t 29), none⟩,
 ⟨some 30, .ext 28 0, none⟩,
 ⟨some 31, .ext 28 1, none⟩,
 ⟨some 32, .ext 28 2, none⟩,
 ⟨some 10, .newbox [(.str []), (.int .i64 0), (.bool false), (.sl false 2 []), (.sl false 2 []), (.sl false 5 []), (.sl false 6 [])], none⟩,
 ⟨none, .st (.t 10) (.t 30) 7 false (some 10), none⟩,
 ⟨some 11, .mv (.t 31), none⟩,
 ⟨some 12, .mv (.t 32), none⟩])
 (.seq (.reg [
 ⟨some 33, .fa (.t 1) 0 (some 1), none⟩,
 ⟨some 34, .ld (.t 33) none false (some 1), none⟩,
 ⟨some 35, .bin .eql (.t 34) (.c (.str [98, 97, 115, 105, 99])), none⟩,
 ⟨some 36, .mv (.t 35), none⟩,
 ⟨some 37, .fa (.t 1) 1 (some 1), some (36, true)⟩,
 ⟨some 38, .ld (.t 37) none false (some 1), some (36, true)⟩,
 ⟨some 39, .bin .eql (.t 38) (.c (.int .i64 86400)), some (36, true)⟩,
 ⟨some 40, .pick (.t 36) (.t 39) (.c (.bool false)), none⟩,
 ⟨some 41, .mv (.t 40), none⟩,
 ⟨some 42, .mv (.t 2), some (41, true)⟩,
 ⟨some 43, .bin .eql (.t 42) (.c (.int .i64 0)), some (41, true)⟩,
 ⟨some 44, .pick (.t 41) (.t 43) (.c (.bool false)), none⟩,
 ⟨some 45, .mv (.t 44), none⟩,
 ⟨some 46, .mv (.t 3), some (45, true)⟩,
 ⟨some 47, .bin .eql (.t 46) (.c (.int .i64 0)), some (45, true)⟩,
 ⟨some 48, .pick (.t 45) (.t 47) (.c (.bool false)), none⟩,
 ⟨some 49, .mv (.t 48), none⟩,
 ⟨some 50, .mv (.t 6), some (49, true)⟩,
 ⟨some 51, .bin .eql (.t 50) (.c (.int .i64 0)), some (49, true)⟩,
 ⟨some 52, .pick (.t 49) (.t 51) (.c (.bool false)), none⟩,
 ⟨some 53, .mv (.t 52), none⟩,
 ⟨some 54, .fa (.t 4) 0 (some 4), some (53, true)⟩,
 ⟨some 55, .ld (.t 54) none false (some 4), some (53, true)⟩,
 ⟨some 56, .bin .eql (.t 55) (.c (.int .i64 9)), some (53, true)⟩,
 ⟨some 57, .pick (.t 53) (.t 56) (.c (.bool false)), none⟩,
 ⟨some 58, .mv (.t 57), none⟩,
 ⟨some 59, .fa (.t 4) 3 (some 4), some (58, true)⟩,
 ⟨some 60, .ld (.t 59) none false (some 4), some (58, true)⟩,
 ⟨some 61, .len false (.t 60) none, some (58, true)⟩,
 ⟨some 62, .bin .eql (.t 61) (.c (.int .i64 2)), some (58, true)⟩,
 ⟨some 63, .pick (.t 58) (.t 62) (.c (.bool false)), none⟩,
 ⟨some 64, .mv (.t 63), none⟩,
 ⟨some 65, .fa (.t 4) 3 (some 4), some (64, true)⟩,
 ⟨some 66, .ld (.t 65) none false (some 4), some (64, true)⟩,
 ⟨some 67, .ia (.t 66) (.c (.int .i64 0)) 4 none none, some (64, true)⟩,
 ⟨some 68, .fa (.t 67) 1 none, some (64, true)⟩,
 ⟨some 69, .ld (.t 68) none false none, some (64, true)⟩,
 ⟨some 70, .bin .eql (.t 69) (.c (.int .i64 60)), some (64, true)⟩,
 ⟨some 71, .pick (.t 64) (.t 70) (.c (.bool false)), none⟩,
 ⟨some 72, .mv (.t 71), none⟩,
 ⟨some 73, .fa (.t 4) 3 (some 4), some (72, true)⟩,
 ⟨some 74, .ld (.t 73) none false (some 4), some (72, true)⟩,
 ⟨some 75, .ia (.t 74) (.c (.int .i64 1)) 4 none none, some (72, true)⟩,
 ⟨some 76, .fa (.t 75) 2 none, some (72, true)⟩,
 ⟨some 77, .ld (.t 76) none false none, some (72, true)⟩,
 ⟨some 78, .bin .eql (.t 77) (.c (.str [117, 110, 105, 116, 115])), some (72, true)⟩,
 ⟨some 79, .pick (.t 72) (.t 78) (.c (.bool false)), none⟩,
 ⟨some 80, .mv (.t 79), none⟩,
 ⟨some 81, .mv (.t 8), some (80, true)⟩,
 ⟨some 82, .bin .eql (.t 81) (.c (.int .i64 6)), some (80, true)⟩,
 ⟨some 83, .pick (.t 80) (.t 82) (.c (.bool false)), none⟩,
 ⟨some 84, .mv (.t 83), none⟩,
 ⟨some 85, .mv (.t 9), some (84, true)⟩,
 ⟨some 86, .bin .eql (.t 85) (.c (.int .i64 1)), some (84, true)⟩,
 ⟨some 87, .pick (.t 84) (.t 86) (.c (.bool false)), none⟩,
 ⟨some 88, .mv (.t 87), none⟩,
 ⟨some 89, .mv (.t 11), some (88, true)⟩,
 ⟨some 90, .bin .eql (.t 89) (.c (.int .i64 14)), some (88, true)⟩,
 ⟨some 91, .pick (.t 88) (.t 90) (.c (.bool false)), none⟩,
 ⟨some 92, .mv (.t 91), none⟩,
 ⟨some 93, .mv (.t 12), some (92, true)⟩,
 ⟨some 94, .bin .eql (.t 93) (.c (.int .i64 15)), some (92, true)⟩,
 ⟨some 95, .pick (.t 92) (.t 94) (.c (.bool false)), none⟩,
 ⟨some 0, .mv (.t 95), none⟩])
 .ret)))))), [.tmp 0]⟩

/- billing/billingref24.Expr -/
def a_billingref24_Expr : AF := ⟨42, (.seq (.reg [
 ⟨some 2, .newbox [(.int .i64 0), (.int .i64 0), (.str []), (.sl false 4 [])], none⟩,
 ⟨some 3, .mv (.c (.int .i64 0)), none⟩,
 ⟨some 4, .mv (.c (.int .i64 0)), none⟩])
 (.seq (.reg [
 ⟨some 11, .mv (.t 0), none⟩,
 ⟨some 12, .call n_billingref23_Scan [((.t 11), false)] false, none⟩,
 ⟨some 10, .mv (.t 12), none⟩,
 ⟨some 13, .ext 10 0, none⟩,
 ⟨none, .cm 13, none⟩,
 ⟨some 14, .ext 10 1, none⟩,
 ⟨some 15, .ext 10 2, none⟩,
 ⟨some 5, .mv (.t 13), none⟩,
 ⟨none, .cm 5, none⟩,
 ⟨some 6, .mv (.t 14), none⟩,
 ⟨some 7, .mv (.t 15), none⟩])
 (.seq (.seq (.reg [
 ⟨some 16, .mv (.t 7), none⟩,
 ⟨some 17, .bin .neq (.t 16) (.c (.int .i64 0)), none⟩])
 (.cond (.t 17) (.seq (.reg [
 ⟨some 18, .build [(.int .i64 0), (.int .i64 0), (.str []), (.sl false 4 [])] [], none⟩,
 ⟨some 19, .mv (.t 6), none⟩,
 ⟨some 20, .mv (.t 7), none⟩,
 ⟨none, .st (.t 2) (.t 18) 4 false (some 2), none⟩,
 ⟨some 3, .mv (.t 19), none⟩,
 ⟨some 4, .mv (.t 20), none⟩])
 .ret)
 .skip))
 (.seq (.reg [
 ⟨none, .cm 5, none⟩,
 ⟨some 21, .cp (.t 5), none⟩,
 ⟨none, .cm 21, none⟩,
 ⟨some 22, .build [(.sl false 4 []), (.int .i64 0), (.int .i64 0)] [(0, 1, (.t 21))], none⟩,
 ⟨some 23, .boxo (.t 22), none⟩,
 ⟨some 8, .mv (.t 23), none⟩])
 (.seq (.reg [
 ⟨some 24, .mv (.t 8), none⟩,
 ⟨some 25, .call n_billingref24_Reader_expr [((.t 24), false)] true, none⟩,
 ⟨some 9, .newbox [(.int .i64 0), (.int .i64 0), (.str []), (.sl false 4 [])], none⟩,
 ⟨none, .st (.t 9) (.t 25) 4 false (some 9), none⟩])
 (.seq (.reg [
 ⟨some 26, .mv (.t 8), none⟩,
 ⟨some 27, .call n_billingref24_Reader_end [((.t 26), false)] true, none⟩])
 (.seq (.seq (.reg [
 ⟨some 28, .mv (.t 8), none⟩,
 ⟨some 29, .nck (.t 28) none, none⟩,
 ⟨some 30, .fa (.t 29) 2 none, none⟩,
 ⟨some 31, .ld (.t 30) none false none, none⟩,
 ⟨some 32, .bin .neq (.t 31) (.c (.int .i64 0)), none⟩])
 (.cond (.t 32) (.seq (.dreg [
 ⟨some 33, .build [(.int .i64 0), (.int .i64 0), (.str []), (.sl false 4 [])] [], none⟩,
 ⟨some 34, .cp (.t 8), none⟩,
 ⟨some 35, .callr n_billingref24_Reader_now [((.t 34), false)], none⟩,
 ⟨some 36, .fld (.t 35) 2 1 false, none⟩,
 ⟨some 37, .cp (.t 8), none⟩,
 ⟨some 38, .nck (.t 37) none, none⟩,
 ⟨some 39, .fa (.t 38) 2 none, none⟩,
 ⟨some 40, .ld (.t 39) none false none, none⟩,
 ⟨none, .st (.t 2) (.t 33) 4 false (some 2), none⟩,
 ⟨some 3, .cp (.t 36), none⟩,
 ⟨some 4, .cp (.t 40), none⟩])
 .ret)
 .skip))
 (.seq (.reg [
 ⟨some 41, .ld (.t 9) (some 4) false (some 9), none⟩,
 ⟨none, .st (.t 2) (.t 41) 4 false (some 2), none⟩,
 ⟨some 3, .mv (.c (.int .i64 0)), none⟩,
 ⟨some 4, .mv (.c (.int .i64 0)), none⟩])
 .ret)))))))), [.cell 2 (some 4), .tmp 3, .tmp 4]⟩
@[go_sem] def mk_19 : List Bool := [K1,K1,K0,K0,K0,K0,K1,K1,K1,K1,K1,K1,K1,K1,K1,K1,K1,K1,K1,K1,K1,K1,K1,K1,K1,K1,K1,K1,K1,K1,K1,K1,K1,K1]
@[go_sem] def mk_20 : List Bool := [K1,K1,K1,K1,K1,K1,K1,K1,K1,K1,K1,K1,K1,K1,K1,K1,K1,K1,K1,K1,K1,K1,K1,K1,K1,K1,K1,K1,K1,K1,K1,K1,K1,K1,K1,K1,K1,K1,K1,K1,K1,K1,K1,K1,K1,K1,K1,K1,K1,K1,K1,K1,K1]

/- billing/billingref24.SameExpr -/
def billingref24_SameExpr_l1b : AC := (.seq (.seq (.reg [
 ⟨some 34, .mv (.t 5), none⟩,
 ⟨some 35, .fa (.t 2) 3 none, none⟩,
 ⟨some 36, .ld (.t 35) none false none, none⟩,
 ⟨some 37, .len false (.t 36) none, none⟩,
 ⟨some 38, .bin .lss (.t 34) (.t 37), none⟩])
 (.cond (.t 38) .skip
 (.exit 0)))
 (.seq (.blk 1 (.seq (.dreg [
 ⟨some 41, .fa (.t 2) 3 none, none⟩,
 ⟨some 42, .ld (.t 41) none false none, none⟩,
 ⟨some 43, .cp (.t 5), none⟩,
 ⟨some 44, .ia (.t 42) (.t 43) 4 none none, none⟩,
 ⟨some 45, .ld (.t 44) (some 4) false none, none⟩,
 ⟨some 46, .fa (.t 3) 3 none, none⟩,
 ⟨some 47, .ld (.t 46) none false none, none⟩,
 ⟨some 48, .cp (.t 5), none⟩,
 ⟨some 49, .ia (.t 47) (.t 48) 4 none none, none⟩,
 ⟨some 50, .ld (.t 49) (some 4) false none, none⟩,
 ⟨some 51, .call n_billingref24_SameExpr [((.t 45), false), ((.t 50), false)] false, none⟩,
 ⟨some 52, .un .not (.t 51), none⟩])
 (.cond (.t 52) (.seq (.reg [
 ⟨some 4, .mv (.c (.bool false)), none⟩])
 .ret)
 .skip)))
 (.reg [
 ⟨some 39, .mv (.t 5), none⟩,
 ⟨some 40, .bin .add (.t 39) (.c (.int .i64 1)), none⟩,
 ⟨some 5, .mv (.t 40), none⟩])))
@[go_sem] def mk_21 : List Bool := [K0,K0,K0,K0,K1,K0,K0,K0,K0,K0,K0,K0,K0,K0,K0,K0,K0,K0,K0,K0,K0,K0,K0,K0,K0,K0,K0,K0,K0,K0,K0,K0,K0,K0,K1,K1,K1,K1,K1,K1,K1,K1,K1,K1,K1,K1,K1,K1,K1,K1,K1,K1,K1]
def billingref24_SameExpr_l1 : AC := .pre mk_21 billingref24_SameExpr_l1b
@[go_sem] theorem billingref24_SameExpr_l1_go : LoopRule billingref24_SameExpr_l1 billingref24_SameExpr_l1b mk_21 := loopRule
@[go_sem] theorem billingref24_SameExpr_l1_lp : LpRule billingref24_SameExpr_l1 billingref24_SameExpr_l1b mk_21 := lpRule
def billingref24_SameExpr_k1b : AC := (.seq (.reg [
 ⟨some 4, .mv (.c (.bool true)), none⟩])
 .ret)
def billingref24_SameExpr_k1 : AC := .pre mk_20 billingref24_SameExpr_k1b
def a_billingref24_SameExpr : AF := ⟨53, (.seq (.reg [
 ⟨some 2, .boxr (.t 0), none⟩,
 ⟨some 3, .boxr (.t 1), none⟩,
 ⟨some 4, .mv (.c (.bool false)), none⟩])
 (.seq (.seq (.reg [
 ⟨some 6, .fa (.t 2) 0 none, none⟩,
 ⟨some 7, .ld (.t 6) none false none, none⟩,
 ⟨some 8, .fa (.t 3) 0 none, none⟩,
 ⟨some 9, .ld (.t 8) none false none, none⟩,
 ⟨some 10, .bin .neq (.t 7) (.t 9), none⟩,
 ⟨some 11, .mv (.t 10), none⟩,
 ⟨some 12, .fa (.t 2) 1 none, some (11, false)⟩,
 ⟨some 13, .ld (.t 12) none false none, some (11, false)⟩,
 ⟨some 14, .fa (.t 3) 1 none, some (11, false)⟩,
 ⟨some 15, .ld (.t 14) none false none, some (11, false)⟩,
 ⟨some 16, .bin .neq (.t 13) (.t 15), some (11, false)⟩,
 ⟨some 17, .pick (.t 11) (.c (.bool true)) (.t 16), none⟩,
 ⟨some 18, .mv (.t 17), none⟩,
 ⟨some 19, .fa (.t 2) 2 none, some (18, false)⟩,
 ⟨some 20, .ld (.t 19) none false none, some (18, false)⟩,
 ⟨some 21, .fa (.t 3) 2 none, some (18, false)⟩,
 ⟨some 22, .ld (.t 21) none false none, some (18, false)⟩,
 ⟨some 23, .bin .neq (.t 20) (.t 22), some (18, false)⟩,
 ⟨some 24, .pick (.t 18) (.c (.bool true)) (.t 23), none⟩,
 ⟨some 25, .mv (.t 24), none⟩,
 ⟨some 26, .fa (.t 2) 3 none, some (25, false)⟩,
 ⟨some 27, .ld (.t 26) none false none, some (25, false)⟩,
 ⟨some 28, .len false (.t 27) none, some (25, false)⟩,
 ⟨some 29, .fa (.t 3) 3 none, some (25, false)⟩,
 ⟨some 30, .ld (.t 29) none false none, some (25, false)⟩,
 ⟨some 31, .len false (.t 30) none, some (25, false)⟩,
 ⟨some 32, .bin .neq (.t 28) (.t 31), some (25, false)⟩,
 ⟨some 33, .pick (.t 25) (.c (.bool true)) (.t 32), none⟩])
 (.cond (.t 33) (.seq (.reg [
 ⟨some 4, .mv (.c (.bool false)), none⟩])
 .ret)
 .skip))
 (.seq (.seq (.reg [
 ⟨some 5, .mv (.c (.int .i64 0)), none⟩])
 (.blk 0 (.pre mk_19 (.loop billingref24_SameExpr_l1))))
 billingref24_SameExpr_k1))), [.tmp 4]⟩

/- billing/parser.Tariff$1 -/
def g_parser_Tariff_1 : AC := (.seq (.reg [
 ⟨some 6, .mv (.t 3), none⟩,
 ⟨some 7, .un .plus (.t 6), none⟩])
 (.cond (.t 7) (.seq (.reg [
 ⟨some 8, .mv (.t 3), none⟩,
 ⟨some 9, .call n_parser_caught [((.t 8), false)] false, none⟩,
 ⟨some 4, .newbox [(.int .i64 0), (.int .i64 0)], none⟩,
 ⟨none, .st (.t 4) (.t 9) 2 false (some 4), none⟩])
 (.dreg [
 ⟨some 10, .build [(.str []), (.int .i64 0), (.bool false), (.sl false 2 []), (.sl false 2 []), (.sl false 5 []), (.sl false 6 [])] [], none⟩,
 ⟨some 11, .fa (.t 4) 0 (some 4), none⟩,
 ⟨some 12, .ld (.t 11) none false (some 4), none⟩,
 ⟨some 13, .fa (.t 4) 1 (some 4), none⟩,
 ⟨some 14, .ld (.t 13) none false (some 4), none⟩,
 ⟨none, .st (.t 0) (.t 10) 7 false none, none⟩,
 ⟨none, .st (.t 1) (.t 12) 1 false none, none⟩,
 ⟨none, .st (.t 2) (.t 14) 1 false none, none⟩]))
 .skip))

/- billing/parser.caught -/
def a_parser_caught : AF := ⟨14, (.seq (.reg [
 ⟨some 2, .newbox [(.int .i64 0), (.int .i64 0)], none⟩])
 (.seq (.reg [
 ⟨some 6, .mv (.t 0), none⟩,
 ⟨some 7, .tas (.t 6) 88 true (.agg [(.int .i64 0), (.int .i64 0)]), none⟩,
 ⟨some 5, .mv (.t 7), none⟩,
 ⟨some 8, .ext 5 0, none⟩,
 ⟨some 9, .ext 5 1, none⟩,
 ⟨some 3, .newbox [(.int .i64 0), (.int .i64 0)], none⟩,
 ⟨none, .st (.t 3) (.t 8) 2 false (some 3), none⟩,
 ⟨some 4, .mv (.t 9), none⟩])
 (.seq (.seq (.reg [
 ⟨some 10, .mv (.t 4), none⟩,
 ⟨some 11, .un .not (.t 10), none⟩])
 (.cond (.t 11) (.seq (.reg [
 ⟨some 12, .build [(.int .i64 0), (.int .i64 0)] [(0, 1, (.c (.int .i64 0))), (1, 1, (.c (.int .i64 1)))], none⟩,
 ⟨none, .st (.t 2) (.t 12) 2 false (some 2), none⟩])
 .ret)
 .skip))
 (.seq (.reg [
 ⟨some 13, .ld (.t 3) (some 2) false (some 3), none⟩,
 ⟨none, .st (.t 2) (.t 13) 2 false (some 2), none⟩])
 .ret)))), [.cell 2 (some 2)]⟩
@[go_sem] def mk_22 : List Bool := [K0,K0,K0,K0,K1,K1,K1,K1,K1,K1,K1,K1,K1,K1,K1,K1,K1,K1,K1,K1,K1,K1,K1,K1,K1,K1,K1,K1,K1,K1,K1,K1,K1,K1,K1,K1,K1,K1,K1,K1,K1,K1,K1,K1,K1]
@[go_sem] def mk_23 : List Bool := [K1,K0,K0,K0,K0,K0,K0,K0,K0,K0,K0,K0,K0,K0,K0,K0,K0,K0,K0,K0,K0,K0,K0,K0,K0,K0,K0,K0,K0,K0,K0,K0,K0,K0,K0,K0,K0,K0,K0,K0,K0,K0,K0,K0,K0,K0,K0,K0,K0,K0,K0,K0,K0,K0,K0,K0,K0,K0,K0,K0,K0,K0,K0,K0,K0,K0,K0,K0,K0,K0,K0,K0,K1,K1,K1,K1,K1,K1,K1,K1,K1]
@[go_sem] def mk_24 : List Bool := [K0,K0,K0,K0,K0,K0,K0,K0,K0,K0,K0,K0,K0,K0,K0,K0,K0,K0,K0,K0,K0,K0,K0,K0,K0,K0,K0,K0,K0,K0,K0,K0,K0,K0,K0,K0,K0,K0,K0,K0,K0,K0,K0,K0,K0,K0,K0,K0,K0,K0,K0,K0,K0,K0,K0,K0,K0,K0,K0,K0,K0,K0,K0,K1,K1,K1,K1,K1,K1,K1,K1,K1]
@[go_sem] def mk_25 : List Bool := [K0,K0,K0,K0,K0,K0,K0,K0,K0,K0,K0,K0,K0,K0,K0,K0,K0,K0,K0,K0,K0,K0,K0,K0,K0,K0,K0,K0,K0,K0,K0,K0,K0,K0,K0,K0,K0,K0,K0,K0,K0,K0,K0,K0,K0,K0,K0,K0,K0,K0,K0,K0,K0,K0,K1,K1,K1,K1,K1,K1,K1,K1,K1]
@[go_sem] def mk_26 : List Bool := [K0,K0,K0,K0,K1,K1,K1,K1,K1,K1,K1,K1,K1,K1,K1,K1,K1,K1,K1,K1,K1,K1,K1,K1,K1,K1,K1,K1,K1,K1,K1,K1,K1,K1,K1,K1,K1,K1,K1,K1,K1,K1,K1,K1,K1,K1,K1,K1,K1,K1,K1,K1,K1,K1]

/- (*billing/parser.reader).tariff -/
def parser_reader_tariff_l1b : AC := (.seq (.seq (.reg [
 ⟨some 45, .mv (.t 0), none⟩,
 ⟨some 46, .call n_parser_reader_takeWord [((.t 45), false), ((.c (.str [122, 111, 110, 101])), false)] true, none⟩])
 (.cond (.t 46) .skip
 (.exit 0)))
 (.blk 1 (.preg [
 ⟨some 47, .fa (.t 3) 3 (some 3), none⟩,
 ⟨some 48, .ld (.t 47) none true (some 3), none⟩,
 ⟨some 49, .cp (.t 0), none⟩,
 ⟨some 50, .call n_parser_reader_zone [((.t 49), false)] true, none⟩,
 ⟨some 51, .bsl 2 1 (.agg [(.str []), (.sl false 1 [])]) [(0, (.t 50))], none⟩,
 ⟨some 52, .app 2 40 (.t 48) (.t 51) none, none⟩,
 ⟨some 53, .fa (.t 3) 3 (some 3), none⟩,
 ⟨none, .st (.t 53) (.t 52) 1 true (some 3), none⟩])))
@[go_sem] def mk_27 : List Bool := [K0,K0,K0,K0,K0,K0,K0,K0,K0,K0,K0,K0,K0,K0,K0,K0,K0,K0,K0,K0,K0,K0,K0,K0,K0,K0,K0,K0,K0,K0,K0,K0,K0,K0,K0,K0,K0,K0,K0,K0,K0,K0,K0,K0,K0,K1,K1,K1,K1,K1,K1,K1,K1,K1]
def parser_reader_tariff_l1 : AC := .pre mk_27 parser_reader_tariff_l1b
@[go_sem] theorem parser_reader_tariff_l1_go : LoopRule parser_reader_tariff_l1 parser_reader_tariff_l1b mk_27 := loopRule
@[go_sem] theorem parser_reader_tariff_l1_lp : LpRule parser_reader_tariff_l1 parser_reader_tariff_l1b mk_27 := lpRule
def parser_reader_tariff_l2b : AC := (.seq (.seq (.reg [
 ⟨some 54, .mv (.t 0), none⟩,
 ⟨some 55, .call n_parser_reader_takeWord [((.t 54), false), ((.c (.str [98, 97, 110, 100])), false)] true, none⟩])
 (.cond (.t 55) .skip
 (.exit 2)))
 (.blk 3 (.preg [
 ⟨some 56, .fa (.t 3) 4 (some 3), none⟩,
 ⟨some 57, .ld (.t 56) none true (some 3), none⟩,
 ⟨some 58, .cp (.t 0), none⟩,
 ⟨some 59, .call n_parser_reader_band [((.t 58), false)] true, none⟩,
 ⟨some 60, .bsl 2 1 (.agg [(.str []), (.sl false 3 [])]) [(0, (.t 59))], none⟩,
 ⟨some 61, .app 2 40 (.t 57) (.t 60) none, none⟩,
 ⟨some 62, .fa (.t 3) 4 (some 3), none⟩,
 ⟨none, .st (.t 62) (.t 61) 1 true (some 3), none⟩])))
def parser_reader_tariff_l2 : AC := .pre mk_25 parser_reader_tariff_l2b
@[go_sem] theorem parser_reader_tariff_l2_go : LoopRule parser_reader_tariff_l2 parser_reader_tariff_l2b mk_25 := loopRule
@[go_sem] theorem parser_reader_tariff_l2_lp : LpRule parser_reader_tariff_l2 parser_reader_tariff_l2b mk_25 := lpRule
def parser_reader_tariff_l3b : AC := (.seq (.seq (.reg [
 ⟨some 63, .mv (.t 0), none⟩,
 ⟨some 64, .call n_parser_reader_takeWord [((.t 63), false), ((.c (.str [114, 97, 116, 101])), false)] true, none⟩])
 (.cond (.t 64) .skip
 (.exit 4)))
 (.blk 5 (.preg [
 ⟨some 65, .fa (.t 3) 5 (some 3), none⟩,
 ⟨some 66, .ld (.t 65) none true (some 3), none⟩,
 ⟨some 67, .cp (.t 0), none⟩,
 ⟨some 68, .call n_parser_reader_rate [((.t 67), false)] true, none⟩,
 ⟨some 69, .bsl 5 1 (.agg [(.int .i64 0), (.str []), (.str []), (.int .i64 0), (.sl false 3 [])]) [(0, (.t 68))], none⟩,
 ⟨some 70, .app 5 72 (.t 66) (.t 69) none, none⟩,
 ⟨some 71, .fa (.t 3) 5 (some 3), none⟩,
 ⟨none, .st (.t 71) (.t 70) 1 true (some 3), none⟩])))
def parser_reader_tariff_l3 : AC := .pre mk_24 parser_reader_tariff_l3b
@[go_sem] theorem parser_reader_tariff_l3_go : LoopRule parser_reader_tariff_l3 parser_reader_tariff_l3b mk_24 := loopRule
@[go_sem] theorem parser_reader_tariff_l3_lp : LpRule parser_reader_tariff_l3 parser_reader_tariff_l3b mk_24 := lpRule
def parser_reader_tariff_l4b : AC := (.seq (.seq (.reg [
 ⟨some 72, .mv (.t 0), none⟩,
 ⟨some 73, .call n_parser_reader_takeWord [((.t 72), false), ((.c (.str [100, 105, 115, 99, 111, 117, 110, 116])), false)] true, none⟩])
 (.cond (.t 73) .skip
 (.exit 6)))
 (.blk 7 (.preg [
 ⟨some 74, .fa (.t 3) 6 (some 3), none⟩,
 ⟨some 75, .ld (.t 74) none true (some 3), none⟩,
 ⟨some 76, .cp (.t 0), none⟩,
 ⟨some 77, .call n_parser_reader_discount [((.t 76), false)] true, none⟩,
 ⟨some 78, .bsl 6 1 (.agg [(.str []), (.int .i64 0), (.int .i64 0), (.str []), (.sl false 4 []), (.int .i64 0)]) [(0, (.t 77))], none⟩,
 ⟨some 79, .app 6 80 (.t 75) (.t 78) none, none⟩,
 ⟨some 80, .fa (.t 3) 6 (some 3), none⟩,
 ⟨none, .st (.t 80) (.t 79) 1 true (some 3), none⟩])))
@[go_sem] def mk_28 : List Bool := [K0,K0,K0,K0,K0,K0,K0,K0,K0,K0,K0,K0,K0,K0,K0,K0,K0,K0,K0,K0,K0,K0,K0,K0,K0,K0,K0,K0,K0,K0,K0,K0,K0,K0,K0,K0,K0,K0,K0,K0,K0,K0,K0,K0,K0,K0,K0,K0,K0,K0,K0,K0,K0,K0,K0,K0,K0,K0,K0,K0,K0,K0,K0,K0,K0,K0,K0,K0,K0,K0,K0,K0,K1,K1,K1,K1,K1,K1,K1,K1,K1]
def parser_reader_tariff_l4 : AC := .pre mk_28 parser_reader_tariff_l4b
@[go_sem] theorem parser_reader_tariff_l4_go : LoopRule parser_reader_tariff_l4 parser_reader_tariff_l4b mk_28 := loopRule
@[go_sem] theorem parser_reader_tariff_l4_lp : LpRule parser_reader_tariff_l4 parser_reader_tariff_l4b mk_28 := lpRule
def parser_reader_tariff_k1b : AC := (.seq (.reg [
 ⟨none, .cmb 3, none⟩,
 ⟨some 81, .ld (.t 3) (some 7) false (some 3), none⟩,
 ⟨none, .st (.t 2) (.t 81) 7 false (some 2), none⟩])
 .ret)
def parser_reader_tariff_k1 : AC := .pre mk_23 parser_reader_tariff_k1b
def parser_reader_tariff_k2b : AC := (.seq (.blk 6 (.loop parser_reader_tariff_l4))
 parser_reader_tariff_k1)
def parser_reader_tariff_k2 : AC := .pre mk_24 parser_reader_tariff_k2b
def parser_reader_tariff_k3b : AC := (.seq (.blk 4 (.loop parser_reader_tariff_l3))
 parser_reader_tariff_k2)
def parser_reader_tariff_k3 : AC := .pre mk_25 parser_reader_tariff_k3b
def parser_reader_tariff_k4b : AC := (.seq (.blk 2 (.loop parser_reader_tariff_l2))
 parser_reader_tariff_k3)
def parser_reader_tariff_k4 : AC := .pre mk_26 parser_reader_tariff_k4b
def a_parser_reader_tariff : AF := ⟨82, (.seq (.reg [
 ⟨some 2, .newbox [(.str []), (.int .i64 0), (.bool false), (.sl false 2 []), (.sl false 2 []), (.sl false 5 []), (.sl false 6 [])], none⟩])
 (.seq (.reg [
 ⟨some 3, .newbox [(.str []), (.int .i64 0), (.bool false), (.sl true 2 []), (.sl true 2 []), (.sl true 5 []), (.sl true 6 [])], none⟩])
 (.seq (.reg [
 ⟨some 6, .mv (.t 0), none⟩,
 ⟨some 7, .call n_parser_reader_needWord [((.t 6), false), ((.c (.str [116, 97, 114, 105, 102, 102])), false)] true, none⟩])
 (.seq (.reg [
 ⟨some 8, .mv (.t 0), none⟩,
 ⟨some 9, .call n_parser_reader_name [((.t 8), false)] true, none⟩,
 ⟨some 10, .fa (.t 3) 0 (some 3), none⟩,
 ⟨none, .st (.t 10) (.t 9) 1 false (some 3), none⟩])
 (.seq (.reg [
 ⟨some 11, .mv (.t 0), none⟩,
 ⟨some 12, .call n_parser_reader_needWord [((.t 11), false), ((.c (.str [102, 114, 111, 109])), false)] true, none⟩])
 (.seq (.reg [
 ⟨some 13, .mv (.t 0), none⟩,
 ⟨some 14, .call n_parser_reader_date [((.t 13), false)] true, none⟩,
 ⟨some 15, .fa (.t 3) 1 (some 3), none⟩,
 ⟨none, .st (.t 15) (.t 14) 1 false (some 3), none⟩])
 (.seq (.seq (.reg [
 ⟨some 16, .mv (.t 0), none⟩,
 ⟨some 17, .call n_parser_reader_peek [((.t 16), false)] true, none⟩,
 ⟨some 18, .fld (.t 17) 0 1 false, none⟩,
 ⟨some 19, .bin .eql (.t 18) (.c (.int .i64 2)), none⟩])
 (.cond (.t 19) (.seq (.reg [
 ⟨some 20, .mv (.t 0), none⟩,
 ⟨some 21, .call n_parser_reader_fixed [((.t 20), false), ((.c (.int .i64 2)), false), ((.c (.int .i64 23)), false)] true, none⟩,
 ⟨some 4, .mv (.t 21), none⟩])
 (.seq (.reg [
 ⟨some 22, .mv (.t 0), none⟩,
 ⟨some 23, .call n_parser_reader_needSymbol [((.t 22), false), ((.c (.str [58])), false)] true, none⟩])
 (.seq (.reg [
 ⟨some 24, .mv (.t 0), none⟩,
 ⟨some 25, .call n_parser_reader_fixed [((.t 24), false), ((.c (.int .i64 2)), false), ((.c (.int .i64 59)), false)] true, none⟩,
 ⟨some 5, .mv (.t 25), none⟩])
 (.seq (.reg [
 ⟨some 26, .mv (.t 0), none⟩,
 ⟨some 27, .call n_parser_reader_needSymbol [((.t 26), false), ((.c (.str [58])), false)] true, none⟩])
 (.preg [
 ⟨some 28, .fa (.t 3) 1 (some 3), none⟩,
 ⟨some 29, .ld (.t 28) none false (some 3), none⟩,
 ⟨some 30, .cp (.t 4), none⟩,
 ⟨some 31, .bin .mul (.c (.int .i64 3600)) (.t 30), none⟩,
 ⟨some 32, .cp (.t 5), none⟩,
 ⟨some 33, .bin .mul (.c (.int .i64 60)) (.t 32), none⟩,
 ⟨some 34, .bin .add (.t 31) (.t 33), none⟩,
 ⟨some 35, .cp (.t 0), none⟩,
 ⟨some 36, .call n_parser_reader_fixed [((.t 35), false), ((.c (.int .i64 2)), false), ((.c (.int .i64 59)), false)] true, none⟩,
 ⟨some 37, .bin .add (.t 34) (.t 36), none⟩,
 ⟨some 38, .bin .add (.t 29) (.t 37), none⟩,
 ⟨some 39, .fa (.t 3) 1 (some 3), none⟩,
 ⟨none, .st (.t 39) (.t 38) 1 false (some 3), none⟩])))))
 .skip))
 (.seq (.reg [
 ⟨some 40, .mv (.t 0), none⟩,
 ⟨some 41, .call n_parser_reader_takeWord [((.t 40), false), ((.c (.str [115, 112, 108, 105, 116])), false)] true, none⟩,
 ⟨some 42, .fa (.t 3) 2 (some 3), none⟩,
 ⟨none, .st (.t 42) (.t 41) 1 false (some 3), none⟩])
 (.seq (.reg [
 ⟨some 43, .mv (.t 0), none⟩,
 ⟨some 44, .call n_parser_reader_needSymbol [((.t 43), false), ((.c (.str [59])), false)] true, none⟩])
 (.seq (.blk 0 (.pre mk_22 (.loop parser_reader_tariff_l1)))
 parser_reader_tariff_k4)))))))))), [.cell 2 (some 7)]⟩

/- (*billing/parser.reader).end -/
def a_parser_reader_end : AF := ⟨9, (.seq (.reg [
 ⟨some 2, .mv (.t 0), none⟩,
 ⟨some 3, .call n_parser_reader_peek [((.t 2), false)] true, none⟩,
 ⟨some 4, .fld (.t 3) 0 1 false, none⟩,
 ⟨some 5, .bin .neq (.t 4) (.c (.int .i64 0)), none⟩])
 (.cond (.t 5) (.reg [
 ⟨some 6, .mv (.t 0), none⟩,
 ⟨some 7, .call n_parser_reader_peek [((.t 6), false)] true, none⟩,
 ⟨some 8, .call n_parser_fail [((.t 7), false), ((.c (.int .i64 1)), false)] false, none⟩])
 .skip)), []⟩

/- billing/parser.Expr$1 -/
def g_parser_Expr_1 : AC := (.seq (.reg [
 ⟨some 6, .mv (.t 3), none⟩,
 ⟨some 7, .un .plus (.t 6), none⟩])
 (.cond (.t 7) (.seq (.reg [
 ⟨some 8, .mv (.t 3), none⟩,
 ⟨some 9, .call n_parser_caught [((.t 8), false)] false, none⟩,
 ⟨some 4, .newbox [(.int .i64 0), (.int .i64 0)], none⟩,
 ⟨none, .st (.t 4) (.t 9) 2 false (some 4), none⟩])
 (.dreg [
 ⟨some 10, .build [(.int .i64 0), (.int .i64 0), (.str []), (.sl false 4 [])] [], none⟩,
 ⟨some 11, .fa (.t 4) 0 (some 4), none⟩,
 ⟨some 12, .ld (.t 11) none false (some 4), none⟩,
 ⟨some 13, .fa (.t 4) 1 (some 4), none⟩,
 ⟨some 14, .ld (.t 13) none false (some 4), none⟩,
 ⟨none, .st (.t 0) (.t 10) 4 false none, none⟩,
 ⟨none, .st (.t 1) (.t 12) 1 false none, none⟩,
 ⟨none, .st (.t 2) (.t 14) 1 false none, none⟩]))
 .skip))
@[go_sem] def mk_29 : List Bool := [K0,K0,K0,K0,K1,K1]
@[go_sem] def mk_30 : List Bool := [K1,K0,K0,K0,K1,K1,K1,K1,K1,K1,K1,K1]

/- (*billing/parser.reader).either -/
def parser_reader_either_l1b : AC := (.seq (.seq (.reg [
 ⟨some 6, .mv (.t 0), none⟩,
 ⟨some 7, .call n_parser_reader_takeWord [((.t 6), false), ((.c (.str [111, 114])), false)] true, none⟩])
 (.cond (.t 7) .skip
 (.exit 0)))
 (.blk 1 (.preg [
 ⟨some 8, .ld (.t 3) (some 4) false (some 3), none⟩,
 ⟨some 9, .cp (.t 0), none⟩,
 ⟨some 10, .call n_parser_reader_both [((.t 9), false)] true, none⟩,
 ⟨some 11, .call n_parser_two [((.c (.int .i64 6)), false), ((.t 8), false), ((.t 10), false)] false, none⟩,
 ⟨none, .st (.t 3) (.t 11) 4 false (some 3), none⟩])))
@[go_sem] def mk_31 : List Bool := [K0,K0,K0,K0,K0,K0,K1,K1,K1,K1,K1,K1]
def parser_reader_either_l1 : AC := .pre mk_31 parser_reader_either_l1b
@[go_sem] theorem parser_reader_either_l1_go : LoopRule parser_reader_either_l1 parser_reader_either_l1b mk_31 := loopRule
@[go_sem] theorem parser_reader_either_l1_lp : LpRule parser_reader_either_l1 parser_reader_either_l1b mk_31 := lpRule
def parser_reader_either_k1b : AC := (.seq (.reg [
 ⟨some 12, .ld (.t 3) (some 4) false (some 3), none⟩,
 ⟨none, .st (.t 2) (.t 12) 4 false (some 2), none⟩])
 .ret)
def parser_reader_either_k1 : AC := .pre mk_30 parser_reader_either_k1b
def a_parser_reader_either : AF := ⟨13, (.seq (.reg [
 ⟨some 2, .newbox [(.int .i64 0), (.int .i64 0), (.str []), (.sl false 4 [])], none⟩])
 (.seq (.reg [
 ⟨some 4, .mv (.t 0), none⟩,
 ⟨some 5, .call n_parser_reader_both [((.t 4), false)] true, none⟩,
 ⟨some 3, .newbox [(.int .i64 0), (.int .i64 0), (.str []), (.sl false 4 [])], none⟩,
 ⟨none, .st (.t 3) (.t 5) 4 false (some 3), none⟩])
 (.seq (.blk 0 (.pre mk_29 (.loop parser_reader_either_l1)))
 parser_reader_either_k1))), [.cell 2 (some 4)]⟩

/- billing/lexer.Scan$1 -/
def g_lexer_Scan_1 : AC := (.seq (.reg [
 ⟨some 7, .mv (.t 3), none⟩,
 ⟨some 8, .un .plus (.t 7), none⟩])
 (.cond (.t 8) (.seq (.reg [
 ⟨some 10, .mv (.t 3), none⟩,
 ⟨some 11, .tas (.t 10) 99 true (.agg [(.int .i64 0), (.int .i64 0)]), none⟩,
 ⟨some 9, .mv (.t 11), none⟩,
 ⟨some 12, .ext 9 0, none⟩,
 ⟨some 13, .ext 9 1, none⟩,
 ⟨some 4, .newbox [(.int .i64 0), (.int .i64 0)], none⟩,
 ⟨none, .st (.t 4) (.t 12) 2 false (some 4), none⟩,
 ⟨some 5, .mv (.t 13), none⟩])
 (.seq (.seq (.reg [
 ⟨some 14, .mv (.t 5), none⟩,
 ⟨some 15, .un .not (.t 14), none⟩])
 (.cond (.t 15) (.reg [
 ⟨some 16, .fa (.t 4) 1 (some 4), none⟩,
 ⟨none, .st (.t 16) (.c (.int .i64 1)) 1 false (some 4), none⟩])
 .skip))
 (.dreg [
 ⟨some 17, .fa (.t 4) 0 (some 4), none⟩,
 ⟨some 18, .ld (.t 17) none false (some 4), none⟩,
 ⟨some 19, .fa (.t 4) 1 (some 4), none⟩,
 ⟨some 20, .ld (.t 19) none false (some 4), none⟩,
 ⟨none, .st (.t 0) (.c (.sl false 4 [])) 1 false none, none⟩,
 ⟨none, .st (.t 1) (.t 18) 1 false none, none⟩,
 ⟨none, .st (.t 2) (.t 20) 1 false none, none⟩])))
 .skip))

/- (*billing/lexer.scanner).next -/
def a_lexer_scanner_next : AF := ⟨47, (.seq (.reg [
 ⟨some 2, .newbox [(.int .i64 0), (.int .i64 0), (.int .i64 0), (.str [])], none⟩])
 (.seq (.reg [
 ⟨some 4, .mv (.t 0), none⟩,
 ⟨some 5, .call n_lexer_scanner_blanks [((.t 4), false)] true, none⟩])
 (.seq (.seq (.dreg [
 ⟨some 6, .cp (.t 0), none⟩,
 ⟨some 7, .nck (.t 6) none, none⟩,
 ⟨some 8, .fa (.t 7) 1 none, none⟩,
 ⟨some 9, .ld (.t 8) none false none, none⟩,
 ⟨some 10, .cp (.t 0), none⟩,
 ⟨some 11, .nck (.t 10) none, none⟩,
 ⟨some 12, .fa (.t 11) 0 none, none⟩,
 ⟨some 13, .ld (.t 12) none false none, none⟩,
 ⟨some 14, .len true (.t 13) none, none⟩,
 ⟨some 15, .bin .eql (.t 9) (.t 14), none⟩])
 (.cond (.t 15) (.seq (.reg [
 ⟨some 16, .mv (.t 0), none⟩,
 ⟨some 17, .nck (.t 16) none, none⟩,
 ⟨some 18, .fa (.t 17) 1 none, none⟩,
 ⟨some 19, .ld (.t 18) none false none, none⟩,
 ⟨some 20, .build [(.int .i64 0), (.int .i64 0), (.int .i64 0), (.str [])] [(0, 1, (.c (.int .i64 0))), (2, 1, (.t 19))], none⟩,
 ⟨none, .st (.t 2) (.t 20) 4 false (some 2), none⟩])
 .ret)
 .skip))
 (.seq (.dreg [
 ⟨some 21, .cp (.t 0), none⟩,
 ⟨some 22, .nck (.t 21) none, none⟩,
 ⟨some 23, .fa (.t 22) 0 none, none⟩,
 ⟨some 24, .ld (.t 23) none false none, none⟩,
 ⟨some 25, .cp (.t 0), none⟩,
 ⟨some 26, .nck (.t 25) none, none⟩,
 ⟨some 27, .fa (.t 26) 1 none, none⟩,
 ⟨some 28, .ld (.t 27) none false none, none⟩,
 ⟨some 29, .idx (.t 24) (.t 28) none 1 false, none⟩,
 ⟨some 3, .cp (.t 29), none⟩])
 (.seq (.blk 0 (.seq (.reg [
 ⟨some 31, .mv (.t 3), none⟩,
 ⟨some 32, .call n_lexer_lower [((.t 31), false)] false, none⟩,
 ⟨some 30, .mv (.t 32), none⟩])
 (.cond (.t 30) (.seq (.reg [
 ⟨some 33, .mv (.t 0), none⟩,
 ⟨some 34, .call n_lexer_scanner_word [((.t 33), false)] true, none⟩,
 ⟨none, .st (.t 2) (.t 34) 4 false (some 2), none⟩])
 .ret)
 (.seq (.reg [
 ⟨some 36, .mv (.t 3), none⟩,
 ⟨some 37, .call n_lexer_digit [((.t 36), false)] false, none⟩,
 ⟨some 35, .mv (.t 37), none⟩])
 (.cond (.t 35) (.seq (.reg [
 ⟨some 38, .mv (.t 0), none⟩,
 ⟨some 39, .call n_lexer_scanner_number [((.t 38), false)] true, none⟩,
 ⟨none, .st (.t 2) (.t 39) 4 false (some 2), none⟩])
 .ret)
 (.seq (.reg [
 ⟨some 41, .mv (.t 3), none⟩,
 ⟨some 42, .bin .eql (.t 41) (.c (.int .u8 34)), none⟩,
 ⟨some 40, .mv (.t 42), none⟩])
 (.cond (.t 40) (.seq (.reg [
 ⟨some 43, .mv (.t 0), none⟩,
 ⟨some 44, .call n_lexer_scanner_text [((.t 43), false)] true, none⟩,
 ⟨none, .st (.t 2) (.t 44) 4 false (some 2), none⟩])
 .ret)
 .skip)))))))
 (.seq (.reg [
 ⟨some 45, .mv (.t 0), none⟩,
 ⟨some 46, .call n_lexer_scanner_symbol [((.t 45), false)] true, none⟩,
 ⟨none, .st (.t 2) (.t 46) 4 false (some 2), none⟩])
 .ret)))))), [.cell 2 (some 4)]⟩

/- billing/billingref23.token -/
def a_billingref23_token : AF := ⟨41, (.seq (.reg [
 ⟨some 4, .newbox [(.int .i64 0), (.int .i64 0), (.int .i64 0), (.str [])], none⟩,
 ⟨some 5, .mv (.c (.int .i64 0)), none⟩,
 ⟨some 6, .mv (.c (.int .i64 0)), none⟩])
 (.seq (.reg [
 ⟨some 8, .mv (.t 0), none⟩,
 ⟨some 9, .mv (.t 1), none⟩,
 ⟨some 10, .idx (.t 8) (.t 9) none 1 false, none⟩,
 ⟨some 7, .mv (.t 10), none⟩])
 (.seq (.seq (.reg [
 ⟨some 11, .mv (.t 7), none⟩,
 ⟨some 12, .call n_billingref23_Lower [((.t 11), false)] false, none⟩])
 (.cond (.t 12) (.seq (.reg [
 ⟨some 13, .mv (.t 0), none⟩,
 ⟨some 14, .mv (.t 1), none⟩,
 ⟨some 15, .call n_billingref23_word [((.t 13), false), ((.t 14), false)] false, none⟩,
 ⟨some 16, .ext 15 0, none⟩,
 ⟨some 17, .ext 15 1, none⟩,
 ⟨some 18, .ext 15 2, none⟩,
 ⟨none, .st (.t 4) (.t 16) 4 false (some 4), none⟩,
 ⟨some 5, .mv (.t 17), none⟩,
 ⟨some 6, .mv (.t 18), none⟩])
 .ret)
 .skip))
 (.seq (.seq (.reg [
 ⟨some 19, .mv (.t 7), none⟩,
 ⟨some 20, .call n_billingref23_Digit [((.t 19), false)] false, none⟩])
 (.cond (.t 20) (.seq (.reg [
 ⟨some 21, .mv (.t 0), none⟩,
 ⟨some 22, .mv (.t 1), none⟩,
 ⟨some 23, .call n_billingref23_number [((.t 21), false), ((.t 22), false)] false, none⟩,
 ⟨some 24, .ext 23 0, none⟩,
 ⟨some 25, .ext 23 1, none⟩,
 ⟨some 26, .ext 23 2, none⟩,
 ⟨none, .st (.t 4) (.t 24) 4 false (some 4), none⟩,
 ⟨some 5, .mv (.t 25), none⟩,
 ⟨some 6, .mv (.t 26), none⟩])
 .ret)
 .skip))
 (.seq (.seq (.reg [
 ⟨some 27, .mv (.t 7), none⟩,
 ⟨some 28, .bin .eql (.t 27) (.c (.int .u8 34)), none⟩])
 (.cond (.t 28) (.seq (.reg [
 ⟨some 29, .mv (.t 0), none⟩,
 ⟨some 30, .mv (.t 1), none⟩,
 ⟨some 31, .call n_billingref23_text [((.t 29), false), ((.t 30), false)] false, none⟩,
 ⟨some 32, .ext 31 0, none⟩,
 ⟨some 33, .ext 31 1, none⟩,
 ⟨some 34, .ext 31 2, none⟩,
 ⟨none, .st (.t 4) (.t 32) 4 false (some 4), none⟩,
 ⟨some 5, .mv (.t 33), none⟩,
 ⟨some 6, .mv (.t 34), none⟩])
 .ret)
 .skip))
 (.seq (.reg [
 ⟨some 35, .mv (.t 0), none⟩,
 ⟨some 36, .mv (.t 1), none⟩,
 ⟨some 37, .call n_billingref23_symbol [((.t 35), false), ((.t 36), false)] false, none⟩,
 ⟨some 38, .ext 37 0, none⟩,
 ⟨some 39, .ext 37 1, none⟩,
 ⟨some 40, .ext 37 2, none⟩,
 ⟨none, .st (.t 4) (.t 38) 4 false (some 4), none⟩,
 ⟨some 5, .mv (.t 39), none⟩,
 ⟨some 6, .mv (.t 40), none⟩])
 .ret)))))), [.cell 4 (some 4), .tmp 5, .tmp 6]⟩
@[go_sem] def mk_32 : List Bool := [K1,K1,K0,K0,K1,K1,K1,K1,K1,K1,K1,K1,K1,K1,K1,K1,K1,K1]

/- billing/billingref23.Has -/
def billingref23_Has_l1b : AC := (.seq (.seq (.reg [
 ⟨some 6, .mv (.t 5), none⟩,
 ⟨some 7, .cp (.t 0), none⟩,
 ⟨some 8, .len false (.t 7) (some 0), none⟩,
 ⟨some 9, .bin .lss (.t 6) (.t 8), none⟩])
 (.cond (.t 9) .skip
 (.exit 0)))
 (.seq (.blk 1 (.seq (.reg [
 ⟨some 12, .cp (.t 0), none⟩,
 ⟨some 13, .mv (.t 5), none⟩,
 ⟨some 14, .ia (.t 12) (.t 13) 1 none (some 0), none⟩,
 ⟨some 15, .ld (.t 14) none false none, none⟩,
 ⟨some 16, .mv (.t 1), none⟩,
 ⟨some 17, .bin .eql (.t 15) (.t 16), none⟩])
 (.cond (.t 17) (.seq (.reg [
 ⟨some 4, .mv (.c (.bool true)), none⟩])
 .ret)
 .skip)))
 (.reg [
 ⟨some 10, .mv (.t 5), none⟩,
 ⟨some 11, .bin .add (.t 10) (.c (.int .i64 1)), none⟩,
 ⟨some 5, .mv (.t 11), none⟩])))
@[go_sem] def mk_33 : List Bool := [K0,K0,K0,K0,K1,K0,K1,K1,K1,K1,K1,K1,K1,K1,K1,K1,K1,K1]
def billingref23_Has_l1 : AC := .pre mk_33 billingref23_Has_l1b
@[go_sem] theorem billingref23_Has_l1_go : LoopRule billingref23_Has_l1 billingref23_Has_l1b mk_33 := loopRule
@[go_sem] theorem billingref23_Has_l1_lp : LpRule billingref23_Has_l1 billingref23_Has_l1b mk_33 := lpRule
def billingref23_Has_k1b : AC := (.seq (.reg [
 ⟨some 4, .mv (.c (.bool false)), none⟩])
 .ret)
def billingref23_Has_k1 : AC := .pre mk_32 billingref23_Has_k1b
def a_billingref23_Has : AF := ⟨18, (.seq (.reg [
 ⟨some 4, .mv (.c (.bool false)), none⟩])
 (.seq (.seq (.reg [
 ⟨some 5, .mv (.c (.int .i64 0)), none⟩])
 (.blk 0 (.loop billingref23_Has_l1)))
 billingref23_Has_k1)), [.tmp 4]⟩

/- billing/billingref23.inText -/
def a_billingref23_inText : AF := ⟨13, (.seq (.reg [
 ⟨some 2, .mv (.c (.bool false)), none⟩])
 (.seq (.reg [
 ⟨some 3, .mv (.t 0), none⟩,
 ⟨some 4, .bin .geq (.t 3) (.c (.int .u8 32)), none⟩,
 ⟨some 5, .mv (.t 4), none⟩,
 ⟨some 6, .mv (.t 0), some (5, true)⟩,
 ⟨some 7, .bin .leq (.t 6) (.c (.int .u8 126)), some (5, true)⟩,
 ⟨some 8, .pick (.t 5) (.t 7) (.c (.bool false)), none⟩,
 ⟨some 9, .mv (.t 8), none⟩,
 ⟨some 10, .mv (.t 0), some (9, true)⟩,
 ⟨some 11, .bin .neq (.t 10) (.c (.int .u8 34)), some (9, true)⟩,
 ⟨some 12, .pick (.t 9) (.t 11) (.c (.bool false)), none⟩,
 ⟨some 2, .mv (.t 12), none⟩])
 .ret)), [.tmp 2]⟩

/- (*billing/billingref24.Reader).expr -/
def billingref24_Reader_expr_l1b : AC := (.seq (.seq (.reg [
 ⟨some 6, .mv (.t 0), none⟩,
 ⟨some 7, .call n_billingref24_Reader_accept [((.t 6), false), ((.c (.str [111, 114])), false)] true, none⟩])
 (.cond (.t 7) .skip
 (.exit 0)))
 (.blk 1 (.dreg [
 ⟨some 8, .ld (.t 3) (some 4) false (some 3), none⟩,
 ⟨some 9, .cp (.t 0), none⟩,
 ⟨some 10, .call n_billingref24_Reader_both [((.t 9), false)] true, none⟩,
 ⟨some 11, .call n_billingref24_two [((.c (.int .i64 6)), false), ((.t 8), false), ((.t 10), false)] false, none⟩,
 ⟨none, .st (.t 3) (.t 11) 4 false (some 3), none⟩])))
def billingref24_Reader_expr_l1 : AC := .pre mk_31 billingref24_Reader_expr_l1b
@[go_sem] theorem billingref24_Reader_expr_l1_go : LoopRule billingref24_Reader_expr_l1 billingref24_Reader_expr_l1b mk_31 := loopRule
@[go_sem] theorem billingref24_Reader_expr_l1_lp : LpRule billingref24_Reader_expr_l1 billingref24_Reader_expr_l1b mk_31 := lpRule
def billingref24_Reader_expr_k1b : AC := (.seq (.reg [
 ⟨some 12, .ld (.t 3) (some 4) false (some 3), none⟩,
 ⟨none, .st (.t 2) (.t 12) 4 false (some 2), none⟩])
 .ret)
def billingref24_Reader_expr_k1 : AC := .pre mk_30 billingref24_Reader_expr_k1b
def a_billingref24_Reader_expr : AF := ⟨13, (.seq (.reg [
 ⟨some 2, .newbox [(.int .i64 0), (.int .i64 0), (.str []), (.sl false 4 [])], none⟩])
 (.seq (.reg [
 ⟨some 4, .mv (.t 0), none⟩,
 ⟨some 5, .call n_billingref24_Reader_both [((.t 4), false)] true, none⟩,
 ⟨some 3, .newbox [(.int .i64 0), (.int .i64 0), (.str []), (.sl false 4 [])], none⟩,
 ⟨none, .st (.t 3) (.t 5) 4 false (some 3), none⟩])
 (.seq (.blk 0 (.pre mk_29 (.loop billingref24_Reader_expr_l1)))
 billingref24_Reader_expr_k1))), [.cell 2 (some 4)]⟩

/- (*billing/billingref24.Reader).end -/
def a_billingref24_Reader_end : AF := ⟨8, (.seq (.reg [
 ⟨some 2, .mv (.t 0), none⟩,
 ⟨some 3, .call n_billingref24_Reader_now [((.t 2), false)] true, none⟩,
 ⟨some 4, .fld (.t 3) 0 1 false, none⟩,
 ⟨some 5, .bin .neq (.t 4) (.c (.int .i64 0)), none⟩])
 (.cond (.t 5) (.reg [
 ⟨some 6, .mv (.t 0), none⟩,
 ⟨some 7, .call n_billingref24_Reader_fail [((.t 6), false), ((.c (.int .i64 1)), false)] true, none⟩])
 .skip)), []⟩

/- (*billing/billingref24.Reader).now -/
def a_billingref24_Reader_now : AF := ⟨13, (.seq (.reg [
 ⟨some 2, .newbox [(.int .i64 0), (.int .i64 0), (.int .i64 0), (.str [])], none⟩])
 (.seq (.dreg [
 ⟨some 3, .cp (.t 0), none⟩,
 ⟨some 4, .nck (.t 3) none, none⟩,
 ⟨some 5, .fa (.t 4) 0 none, none⟩,
 ⟨some 6, .ld (.t 5) none false none, none⟩,
 ⟨some 7, .cp (.t 0), none⟩,
 ⟨some 8, .nck (.t 7) none, none⟩,
 ⟨some 9, .fa (.t 8) 1 none, none⟩,
 ⟨some 10, .ld (.t 9) none false none, none⟩,
 ⟨some 11, .ia (.t 6) (.t 10) 4 none none, none⟩,
 ⟨some 12, .ld (.t 11) (some 4) false none, none⟩,
 ⟨none, .st (.t 2) (.t 12) 4 false (some 2), none⟩])
 .ret)), [.cell 2 (some 4)]⟩

/- (*billing/parser.reader).needWord -/
def a_parser_reader_needWord : AF := ⟨11, (.seq (.reg [
 ⟨some 4, .mv (.t 0), none⟩,
 ⟨some 5, .mv (.t 1), none⟩,
 ⟨some 6, .call n_parser_reader_takeWord [((.t 4), false), ((.t 5), false)] true, none⟩,
 ⟨some 7, .un .not (.t 6), none⟩])
 (.cond (.t 7) (.reg [
 ⟨some 8, .mv (.t 0), none⟩,
 ⟨some 9, .call n_parser_reader_peek [((.t 8), false)] true, none⟩,
 ⟨some 10, .call n_parser_fail [((.t 9), false), ((.c (.int .i64 1)), false)] false, none⟩])
 .skip)), []⟩

/- (*billing/parser.reader).name -/
def a_parser_reader_name : AF := ⟨19, (.seq (.reg [
 ⟨some 2, .mv (.c (.str [])), none⟩])
 (.seq (.reg [
 ⟨some 4, .mv (.t 0), none⟩,
 ⟨some 5, .call n_parser_reader_peek [((.t 4), false)] true, none⟩,
 ⟨some 3, .newbox [(.int .i64 0), (.int .i64 0), (.int .i64 0), (.str [])], none⟩,
 ⟨none, .st (.t 3) (.t 5) 4 false (some 3), none⟩])
 (.seq (.seq (.reg [
 ⟨some 6, .fa (.t 3) 0 (some 3), none⟩,
 ⟨some 7, .ld (.t 6) none false (some 3), none⟩,
 ⟨some 8, .bin .neq (.t 7) (.c (.int .i64 1)), none⟩,
 ⟨some 9, .mv (.t 8), none⟩,
 ⟨some 10, .fa (.t 3) 3 (some 3), some (9, false)⟩,
 ⟨some 11, .ld (.t 10) none false (some 3), some (9, false)⟩,
 ⟨some 12, .call n_lexer_Keyword [((.t 11), false)] false, some (9, false)⟩,
 ⟨some 13, .pick (.t 9) (.c (.bool true)) (.t 12), none⟩])
 (.cond (.t 13) (.reg [
 ⟨some 14, .ld (.t 3) (some 4) false (some 3), none⟩,
 ⟨some 15, .call n_parser_fail [((.t 14), false), ((.c (.int .i64 1)), false)] false, none⟩])
 .skip))
 (.seq (.reg [
 ⟨some 16, .mv (.t 0), none⟩,
 ⟨some 17, .call n_parser_reader_skip [((.t 16), false)] true, none⟩,
 ⟨some 18, .fld (.t 17) 3 1 false, none⟩,
 ⟨some 2, .mv (.t 18), none⟩])
 .ret)))), [.tmp 2]⟩

/- (*billing/parser.reader).date -/
def a_parser_reader_date : AF := ⟨33, (.seq (.reg [
 ⟨some 2, .mv (.c (.int .i64 0)), none⟩])
 (.seq (.reg [
 ⟨some 7, .mv (.t 0), none⟩,
 ⟨some 8, .call n_parser_reader_peek [((.t 7), false)] true, none⟩,
 ⟨some 3, .newbox [(.int .i64 0), (.int .i64 0), (.int .i64 0), (.str [])], none⟩,
 ⟨none, .st (.t 3) (.t 8) 4 false (some 3), none⟩])
 (.seq (.reg [
 ⟨some 4, .newbox [(.int .i64 0), (.int .i64 0), (.int .i64 0)], none⟩])
 (.seq (.reg [
 ⟨some 9, .mv (.t 0), none⟩,
 ⟨some 10, .call n_parser_reader_fixed [((.t 9), false), ((.c (.int .i64 4)), false), ((.c (.int .i64 9999)), false)] true, none⟩,
 ⟨some 11, .fa (.t 4) 0 (some 4), none⟩,
 ⟨none, .st (.t 11) (.t 10) 1 false (some 4), none⟩])
 (.seq (.reg [
 ⟨some 12, .mv (.t 0), none⟩,
 ⟨some 13, .call n_parser_reader_needSymbol [((.t 12), false), ((.c (.str [45])), false)] true, none⟩])
 (.seq (.reg [
 ⟨some 14, .mv (.t 0), none⟩,
 ⟨some 15, .call n_parser_reader_fixed [((.t 14), false), ((.c (.int .i64 2)), false), ((.c (.int .i64 99)), false)] true, none⟩,
 ⟨some 16, .fa (.t 4) 1 (some 4), none⟩,
 ⟨none, .st (.t 16) (.t 15) 1 false (some 4), none⟩])
 (.seq (.reg [
 ⟨some 17, .mv (.t 0), none⟩,
 ⟨some 18, .call n_parser_reader_needSymbol [((.t 17), false), ((.c (.str [45])), false)] true, none⟩])
 (.seq (.reg [
 ⟨some 19, .mv (.t 0), none⟩,
 ⟨some 20, .call n_parser_reader_fixed [((.t 19), false), ((.c (.int .i64 2)), false), ((.c (.int .i64 99)), false)] true, none⟩,
 ⟨some 21, .fa (.t 4) 2 (some 4), none⟩,
 ⟨none, .st (.t 21) (.t 20) 1 false (some 4), none⟩])
 (.seq (.reg [
 ⟨some 23, .ld (.t 4) (some 3) false (some 4), none⟩,
 ⟨some 24, .call n_calendar_Day [((.t 23), false)] false, none⟩,
 ⟨some 22, .mv (.t 24), none⟩,
 ⟨some 25, .ext 22 0, none⟩,
 ⟨some 26, .ext 22 1, none⟩,
 ⟨some 5, .mv (.t 25), none⟩,
 ⟨some 6, .mv (.t 26), none⟩])
 (.seq (.seq (.reg [
 ⟨some 27, .mv (.t 6), none⟩,
 ⟨some 28, .bin .neq (.t 27) (.c (.int .i64 0)), none⟩])
 (.cond (.t 28) (.reg [
 ⟨some 29, .ld (.t 3) (some 4) false (some 3), none⟩,
 ⟨some 30, .call n_parser_fail [((.t 29), false), ((.c (.int .i64 15)), false)] false, none⟩])
 .skip))
 (.seq (.reg [
 ⟨some 31, .mv (.t 5), none⟩,
 ⟨some 32, .bin .mul (.t 31) (.c (.int .i64 86400)), none⟩,
 ⟨some 2, .mv (.t 32), none⟩])
 .ret))))))))))), [.tmp 2]⟩

/- (*billing/parser.reader).peek -/
def a_parser_reader_peek : AF := ⟨13, (.seq (.reg [
 ⟨some 2, .newbox [(.int .i64 0), (.int .i64 0), (.int .i64 0), (.str [])], none⟩])
 (.seq (.dreg [
 ⟨some 3, .cp (.t 0), none⟩,
 ⟨some 4, .nck (.t 3) none, none⟩,
 ⟨some 5, .fa (.t 4) 0 none, none⟩,
 ⟨some 6, .ld (.t 5) none false none, none⟩,
 ⟨some 7, .cp (.t 0), none⟩,
 ⟨some 8, .nck (.t 7) none, none⟩,
 ⟨some 9, .fa (.t 8) 1 none, none⟩,
 ⟨some 10, .ld (.t 9) none false none, none⟩,
 ⟨some 11, .ia (.t 6) (.t 10) 4 none none, none⟩,
 ⟨some 12, .ld (.t 11) (some 4) false none, none⟩,
 ⟨none, .st (.t 2) (.t 12) 4 false (some 2), none⟩])
 .ret)), [.cell 2 (some 4)]⟩

/- (*billing/parser.reader).fixed -/
def a_parser_reader_fixed : AF := ⟨31, (.seq (.reg [
 ⟨some 6, .mv (.c (.int .i64 0)), none⟩])
 (.seq (.reg [
 ⟨some 8, .mv (.t 0), none⟩,
 ⟨some 9, .call n_parser_reader_peek [((.t 8), false)] true, none⟩,
 ⟨some 7, .newbox [(.int .i64 0), (.int .i64 0), (.int .i64 0), (.str [])], none⟩,
 ⟨none, .st (.t 7) (.t 9) 4 false (some 7), none⟩])
 (.seq (.seq (.reg [
 ⟨some 10, .fa (.t 7) 0 (some 7), none⟩,
 ⟨some 11, .ld (.t 10) none false (some 7), none⟩,
 ⟨some 12, .bin .neq (.t 11) (.c (.int .i64 2)), none⟩,
 ⟨some 13, .mv (.t 12), none⟩,
 ⟨some 14, .fa (.t 7) 3 (some 7), some (13, false)⟩,
 ⟨some 15, .ld (.t 14) none false (some 7), some (13, false)⟩,
 ⟨some 16, .len true (.t 15) none, some (13, false)⟩,
 ⟨some 17, .mv (.t 1), some (13, false)⟩,
 ⟨some 18, .bin .neq (.t 16) (.t 17), some (13, false)⟩,
 ⟨some 19, .pick (.t 13) (.c (.bool true)) (.t 18), none⟩,
 ⟨some 20, .mv (.t 19), none⟩,
 ⟨some 21, .fa (.t 7) 1 (some 7), some (20, false)⟩,
 ⟨some 22, .ld (.t 21) none false (some 7), some (20, false)⟩,
 ⟨some 23, .mv (.t 2), some (20, false)⟩,
 ⟨some 24, .bin .gtr (.t 22) (.t 23), some (20, false)⟩,
 ⟨some 25, .pick (.t 20) (.c (.bool true)) (.t 24), none⟩])
 (.cond (.t 25) (.reg [
 ⟨some 26, .ld (.t 7) (some 4) false (some 7), none⟩,
 ⟨some 27, .call n_parser_fail [((.t 26), false), ((.c (.int .i64 1)), false)] false, none⟩])
 .skip))
 (.seq (.reg [
 ⟨some 28, .mv (.t 0), none⟩,
 ⟨some 29, .call n_parser_reader_skip [((.t 28), false)] true, none⟩,
 ⟨some 30, .fld (.t 29) 1 1 false, none⟩,
 ⟨some 6, .mv (.t 30), none⟩])
 .ret)))), [.tmp 6]⟩

/- (*billing/parser.reader).needSymbol -/
def a_parser_reader_needSymbol : AF := ⟨11, (.seq (.reg [
 ⟨some 4, .mv (.t 0), none⟩,
 ⟨some 5, .mv (.t 1), none⟩,
 ⟨some 6, .call n_parser_reader_takeSymbol [((.t 4), false), ((.t 5), false)] true, none⟩,
 ⟨some 7, .un .not (.t 6), none⟩])
 (.cond (.t 7) (.reg [
 ⟨some 8, .mv (.t 0), none⟩,
 ⟨some 9, .call n_parser_reader_peek [((.t 8), false)] true, none⟩,
 ⟨some 10, .call n_parser_fail [((.t 9), false), ((.c (.int .i64 1)), false)] false, none⟩])
 .skip)), []⟩

/- (*billing/parser.reader).takeWord -/
def a_parser_reader_takeWord : AF := ⟨15, (.seq (.reg [
 ⟨some 4, .mv (.c (.bool false)), none⟩])
 (.seq (.seq (.reg [
 ⟨some 5, .mv (.t 0), none⟩,
 ⟨some 6, .mv (.t 1), none⟩,
 ⟨some 7, .call n_parser_reader_word [((.t 5), false), ((.t 6), false)] true, none⟩])
 (.cond (.t 7) (.seq (.reg [
 ⟨some 8, .mv (.t 0), none⟩,
 ⟨some 9, .nck (.t 8) none, none⟩,
 ⟨some 10, .fa (.t 9) 1 none, none⟩,
 ⟨some 11, .ld (.t 10) none false none, none⟩,
 ⟨some 12, .bin .add (.t 11) (.c (.int .i64 1)), none⟩,
 ⟨some 13, .nck (.t 8) none, none⟩,
 ⟨some 14, .fa (.t 13) 1 none, none⟩,
 ⟨none, .st (.t 14) (.t 12) 1 false none, none⟩])
 (.seq (.reg [
 ⟨some 4, .mv (.c (.bool true)), none⟩])
 .ret))
 .skip))
 (.seq (.reg [
 ⟨some 4, .mv (.c (.bool false)), none⟩])
 .ret))), [.tmp 4]⟩
@[go_sem] def mk_34 : List Bool := [K0,K0,K0,K0,K1,K1,K1,K1,K1,K1,K1,K1,K1,K1]
@[go_sem] def mk_35 : List Bool := [K0,K0,K0,K0,K1,K1,K1,K1,K1,K1,K1,K1,K1,K1,K1,K1,K1,K1,K1,K1,K1,K1,K1]

/- (*billing/parser.reader).zone -/
def parser_reader_zone_l1b : AC := (.seq (.seq (.reg [
 ⟨some 14, .mv (.t 0), none⟩,
 ⟨some 15, .call n_parser_reader_takeSymbol [((.t 14), false), ((.c (.str [44])), false)] true, none⟩])
 (.cond (.t 15) .skip
 (.exit 0)))
 (.blk 1 (.preg [
 ⟨some 16, .fa (.t 3) 1 (some 3), none⟩,
 ⟨some 17, .ld (.t 16) none true (some 3), none⟩,
 ⟨some 18, .cp (.t 0), none⟩,
 ⟨some 19, .call n_parser_reader_digits [((.t 18), false)] true, none⟩,
 ⟨some 20, .bsl 1 1 (.str []) [(0, (.t 19))], none⟩,
 ⟨some 21, .app 1 16 (.t 17) (.t 20) none, none⟩,
 ⟨some 22, .fa (.t 3) 1 (some 3), none⟩,
 ⟨none, .st (.t 22) (.t 21) 1 true (some 3), none⟩])))
@[go_sem] def mk_36 : List Bool := [K0,K0,K0,K0,K0,K0,K0,K0,K0,K0,K0,K0,K0,K0,K1,K1,K1,K1,K1,K1,K1,K1,K1]
def parser_reader_zone_l1 : AC := .pre mk_36 parser_reader_zone_l1b
@[go_sem] theorem parser_reader_zone_l1_go : LoopRule parser_reader_zone_l1 parser_reader_zone_l1b mk_36 := loopRule
@[go_sem] theorem parser_reader_zone_l1_lp : LpRule parser_reader_zone_l1 parser_reader_zone_l1b mk_36 := lpRule
def parser_reader_zone_k1b : AC := (.seq (.reg [
 ⟨some 23, .mv (.t 0), none⟩,
 ⟨some 24, .call n_parser_reader_needSymbol [((.t 23), false), ((.c (.str [59])), false)] true, none⟩])
 (.seq (.reg [
 ⟨none, .cmb 3, none⟩,
 ⟨some 25, .ld (.t 3) (some 2) false (some 3), none⟩,
 ⟨none, .st (.t 2) (.t 25) 2 false (some 2), none⟩])
 .ret))
def parser_reader_zone_k1 : AC := .pre mk_35 parser_reader_zone_k1b
def a_parser_reader_zone : AF := ⟨26, (.seq (.reg [
 ⟨some 2, .newbox [(.str []), (.sl false 1 [])], none⟩])
 (.seq (.reg [
 ⟨some 4, .mv (.t 0), none⟩,
 ⟨some 5, .call n_parser_reader_name [((.t 4), false)] true, none⟩,
 ⟨some 6, .build [(.str []), (.sl false 0 [])] [(0, 1, (.t 5))], none⟩,
 ⟨some 3, .newbox [(.str []), (.sl true 1 [])], none⟩,
 ⟨none, .st (.t 3) (.t 6) 2 false (some 3), none⟩])
 (.seq (.preg [
 ⟨some 7, .fa (.t 3) 1 (some 3), none⟩,
 ⟨some 8, .ld (.t 7) none true (some 3), none⟩,
 ⟨some 9, .cp (.t 0), none⟩,
 ⟨some 10, .call n_parser_reader_digits [((.t 9), false)] true, none⟩,
 ⟨some 11, .bsl 1 1 (.str []) [(0, (.t 10))], none⟩,
 ⟨some 12, .app 1 16 (.t 8) (.t 11) none, none⟩,
 ⟨some 13, .fa (.t 3) 1 (some 3), none⟩,
 ⟨none, .st (.t 13) (.t 12) 1 true (some 3), none⟩])
 (.seq (.blk 0 (.pre mk_34 (.loop parser_reader_zone_l1)))
 parser_reader_zone_k1)))), [.cell 2 (some 2)]⟩
@[go_sem] def mk_37 : List Bool := [K0,K0,K0,K0,K1,K1,K1,K1,K1,K1,K1,K1,K1,K1,K1,K1,K1]
@[go_sem] def mk_38 : List Bool := [K0,K0,K0,K0,K1,K1,K1,K1,K1,K1,K1,K1,K1,K1,K1,K1,K1,K1,K1,K1,K1,K1,K1,K1,K1,K1]

/- (*billing/parser.reader).band -/
def parser_reader_band_l1b : AC := (.seq (.seq (.reg [
 ⟨some 17, .mv (.t 0), none⟩,
 ⟨some 18, .call n_parser_reader_takeSymbol [((.t 17), false), ((.c (.str [44])), false)] true, none⟩])
 (.cond (.t 18) .skip
 (.exit 0)))
 (.blk 1 (.preg [
 ⟨some 19, .fa (.t 3) 1 (some 3), none⟩,
 ⟨some 20, .ld (.t 19) none true (some 3), none⟩,
 ⟨some 21, .cp (.t 0), none⟩,
 ⟨some 22, .call n_parser_reader_slot [((.t 21), false)] true, none⟩,
 ⟨some 23, .bsl 3 1 (.agg [(.int .i64 0), (.int .i64 0), (.int .i64 0)]) [(0, (.t 22))], none⟩,
 ⟨some 24, .app 3 24 (.t 20) (.t 23) none, none⟩,
 ⟨some 25, .fa (.t 3) 1 (some 3), none⟩,
 ⟨none, .st (.t 25) (.t 24) 1 true (some 3), none⟩])))
@[go_sem] def mk_39 : List Bool := [K0,K0,K0,K0,K0,K0,K0,K0,K0,K0,K0,K0,K0,K0,K0,K0,K0,K1,K1,K1,K1,K1,K1,K1,K1,K1]
def parser_reader_band_l1 : AC := .pre mk_39 parser_reader_band_l1b
@[go_sem] theorem parser_reader_band_l1_go : LoopRule parser_reader_band_l1 parser_reader_band_l1b mk_39 := loopRule
@[go_sem] theorem parser_reader_band_l1_lp : LpRule parser_reader_band_l1 parser_reader_band_l1b mk_39 := lpRule
def parser_reader_band_k1b : AC := (.seq (.reg [
 ⟨some 26, .mv (.t 0), none⟩,
 ⟨some 27, .call n_parser_reader_needSymbol [((.t 26), false), ((.c (.str [59])), false)] true, none⟩])
 (.seq (.reg [
 ⟨none, .cmb 3, none⟩,
 ⟨some 28, .ld (.t 3) (some 2) false (some 3), none⟩,
 ⟨none, .st (.t 2) (.t 28) 2 false (some 2), none⟩])
 .ret))
def parser_reader_band_k1 : AC := .pre mk_38 parser_reader_band_k1b
def a_parser_reader_band : AF := ⟨29, (.seq (.reg [
 ⟨some 2, .newbox [(.str []), (.sl false 3 [])], none⟩])
 (.seq (.reg [
 ⟨some 4, .mv (.t 0), none⟩,
 ⟨some 5, .call n_parser_reader_name [((.t 4), false)] true, none⟩,
 ⟨some 6, .build [(.str []), (.sl false 0 [])] [(0, 1, (.t 5))], none⟩,
 ⟨some 3, .newbox [(.str []), (.sl true 3 [])], none⟩,
 ⟨none, .st (.t 3) (.t 6) 2 false (some 3), none⟩])
 (.seq (.seq (.reg [
 ⟨some 7, .mv (.t 0), none⟩,
 ⟨some 8, .call n_parser_reader_takeWord [((.t 7), false), ((.c (.str [111, 116, 104, 101, 114, 119, 105, 115, 101])), false)] true, none⟩,
 ⟨some 9, .un .not (.t 8), none⟩])
 (.cond (.t 9) (.seq (.preg [
 ⟨some 10, .fa (.t 3) 1 (some 3), none⟩,
 ⟨some 11, .ld (.t 10) none true (some 3), none⟩,
 ⟨some 12, .cp (.t 0), none⟩,
 ⟨some 13, .call n_parser_reader_slot [((.t 12), false)] true, none⟩,
 ⟨some 14, .bsl 3 1 (.agg [(.int .i64 0), (.int .i64 0), (.int .i64 0)]) [(0, (.t 13))], none⟩,
 ⟨some 15, .app 3 24 (.t 11) (.t 14) none, none⟩,
 ⟨some 16, .fa (.t 3) 1 (some 3), none⟩,
 ⟨none, .st (.t 16) (.t 15) 1 true (some 3), none⟩])
 (.blk 0 (.pre mk_37 (.loop parser_reader_band_l1))))
 .skip))
 parser_reader_band_k1))), [.cell 2 (some 2)]⟩

/- (*billing/parser.reader).rate -/
def parser_reader_rate_l1b : AC := (.seq (.seq (.reg [
 ⟨some 45, .mv (.t 0), none⟩,
 ⟨some 46, .call n_parser_reader_takeSymbol [((.t 45), false), ((.c (.str [44])), false)] true, none⟩])
 (.cond (.t 46) .skip
 (.exit 0)))
 (.blk 1 (.preg [
 ⟨some 47, .fa (.t 3) 4 (some 3), none⟩,
 ⟨some 48, .ld (.t 47) none true (some 3), none⟩,
 ⟨some 49, .cp (.t 0), none⟩,
 ⟨some 50, .call n_parser_reader_step [((.t 49), false)] true, none⟩,
 ⟨some 51, .bsl 3 1 (.agg [(.int .i64 0), (.int .i64 0), (.int .i64 0)]) [(0, (.t 50))], none⟩,
 ⟨some 52, .app 3 24 (.t 48) (.t 51) none, none⟩,
 ⟨some 53, .fa (.t 3) 4 (some 3), none⟩,
 ⟨none, .st (.t 53) (.t 52) 1 true (some 3), none⟩])))
def parser_reader_rate_l1 : AC := .pre mk_27 parser_reader_rate_l1b
@[go_sem] theorem parser_reader_rate_l1_go : LoopRule parser_reader_rate_l1 parser_reader_rate_l1b mk_27 := loopRule
@[go_sem] theorem parser_reader_rate_l1_lp : LpRule parser_reader_rate_l1 parser_reader_rate_l1b mk_27 := lpRule
def parser_reader_rate_k1b : AC := (.seq (.reg [
 ⟨some 54, .mv (.t 0), none⟩,
 ⟨some 55, .call n_parser_reader_needSymbol [((.t 54), false), ((.c (.str [59])), false)] true, none⟩])
 (.seq (.reg [
 ⟨none, .cmb 3, none⟩,
 ⟨some 56, .ld (.t 3) (some 5) false (some 3), none⟩,
 ⟨none, .st (.t 2) (.t 56) 5 false (some 2), none⟩])
 .ret))
def parser_reader_rate_k1 : AC := .pre mk_26 parser_reader_rate_k1b
def a_parser_reader_rate : AF := ⟨57, (.seq (.reg [
 ⟨some 2, .newbox [(.int .i64 0), (.str []), (.str []), (.int .i64 0), (.sl false 3 [])], none⟩])
 (.seq (.reg [
 ⟨some 3, .newbox [(.int .i64 0), (.str []), (.str []), (.int .i64 0), (.sl true 3 [])], none⟩])
 (.seq (.reg [
 ⟨some 5, .mv (.t 0), none⟩,
 ⟨some 6, .call n_parser_reader_peek [((.t 5), false)] true, none⟩,
 ⟨some 4, .newbox [(.int .i64 0), (.int .i64 0), (.int .i64 0), (.str [])], none⟩,
 ⟨none, .st (.t 4) (.t 6) 4 false (some 4), none⟩])
 (.seq (.reg [
 ⟨some 7, .fa (.t 4) 3 (some 4), none⟩,
 ⟨some 8, .ld (.t 7) none false (some 4), none⟩,
 ⟨some 9, .call n_parser_kind [((.t 8), false)] false, none⟩,
 ⟨some 10, .fa (.t 3) 0 (some 3), none⟩,
 ⟨none, .st (.t 10) (.t 9) 1 false (some 3), none⟩])
 (.seq (.seq (.reg [
 ⟨some 11, .fa (.t 4) 0 (some 4), none⟩,
 ⟨some 12, .ld (.t 11) none false (some 4), none⟩,
 ⟨some 13, .bin .neq (.t 12) (.c (.int .i64 1)), none⟩,
 ⟨some 14, .mv (.t 13), none⟩,
 ⟨some 15, .fa (.t 3) 0 (some 3), some (14, false)⟩,
 ⟨some 16, .ld (.t 15) none false (some 3), some (14, false)⟩,
 ⟨some 17, .bin .eql (.t 16) (.c (.int .i64 0)), some (14, false)⟩,
 ⟨some 18, .pick (.t 14) (.c (.bool true)) (.t 17), none⟩])
 (.cond (.t 18) (.reg [
 ⟨some 19, .ld (.t 4) (some 4) false (some 4), none⟩,
 ⟨some 20, .call n_parser_fail [((.t 19), false), ((.c (.int .i64 1)), false)] false, none⟩])
 .skip))
 (.seq (.reg [
 ⟨some 21, .mv (.t 0), none⟩,
 ⟨some 22, .call n_parser_reader_skip [((.t 21), false)] true, none⟩])
 (.seq (.reg [
 ⟨some 23, .mv (.t 0), none⟩,
 ⟨some 24, .call n_parser_reader_needWord [((.t 23), false), ((.c (.str [116, 111])), false)] true, none⟩])
 (.seq (.reg [
 ⟨some 25, .mv (.t 0), none⟩,
 ⟨some 26, .call n_parser_reader_nameOrAny [((.t 25), false)] true, none⟩,
 ⟨some 27, .fa (.t 3) 1 (some 3), none⟩,
 ⟨none, .st (.t 27) (.t 26) 1 false (some 3), none⟩])
 (.seq (.reg [
 ⟨some 28, .mv (.t 0), none⟩,
 ⟨some 29, .call n_parser_reader_needWord [((.t 28), false), ((.c (.str [105, 110])), false)] true, none⟩])
 (.seq (.reg [
 ⟨some 30, .mv (.t 0), none⟩,
 ⟨some 31, .call n_parser_reader_nameOrAny [((.t 30), false)] true, none⟩,
 ⟨some 32, .fa (.t 3) 2 (some 3), none⟩,
 ⟨none, .st (.t 32) (.t 31) 1 false (some 3), none⟩])
 (.seq (.seq (.reg [
 ⟨some 33, .mv (.t 0), none⟩,
 ⟨some 34, .call n_parser_reader_takeWord [((.t 33), false), ((.c (.str [115, 101, 116, 117, 112])), false)] true, none⟩])
 (.cond (.t 34) (.reg [
 ⟨some 35, .mv (.t 0), none⟩,
 ⟨some 36, .call n_parser_reader_number [((.t 35), false)] true, none⟩,
 ⟨some 37, .fa (.t 3) 3 (some 3), none⟩,
 ⟨none, .st (.t 37) (.t 36) 1 false (some 3), none⟩])
 .skip))
 (.seq (.preg [
 ⟨some 38, .fa (.t 3) 4 (some 3), none⟩,
 ⟨some 39, .ld (.t 38) none true (some 3), none⟩,
 ⟨some 40, .cp (.t 0), none⟩,
 ⟨some 41, .call n_parser_reader_step [((.t 40), false)] true, none⟩,
 ⟨some 42, .bsl 3 1 (.agg [(.int .i64 0), (.int .i64 0), (.int .i64 0)]) [(0, (.t 41))], none⟩,
 ⟨some 43, .app 3 24 (.t 39) (.t 42) none, none⟩,
 ⟨some 44, .fa (.t 3) 4 (some 3), none⟩,
 ⟨none, .st (.t 44) (.t 43) 1 true (some 3), none⟩])
 (.seq (.blk 0 (.pre mk_22 (.loop parser_reader_rate_l1)))
 parser_reader_rate_k1))))))))))))), [.cell 2 (some 5)]⟩

/- (*billing/parser.reader).discount -/
def a_parser_reader_discount : AF := ⟨20, (.seq (.reg [
 ⟨some 2, .newbox [(.str []), (.int .i64 0), (.int .i64 0), (.str []), (.sl false 4 []), (.int .i64 0)], none⟩])
 (.seq (.reg [
 ⟨some 4, .mv (.t 0), none⟩,
 ⟨some 5, .call n_parser_reader_name [((.t 4), false)] true, none⟩,
 ⟨some 6, .build [(.str []), (.int .i64 0), (.int .i64 0), (.str []), (.sl false 4 []), (.int .i64 0)] [(0, 1, (.t 5))], none⟩,
 ⟨some 3, .newbox [(.str []), (.int .i64 0), (.int .i64 0), (.str []), (.sl false 4 []), (.int .i64 0)], none⟩,
 ⟨none, .st (.t 3) (.t 6) 6 false (some 3), none⟩])
 (.seq (.reg [
 ⟨some 7, .mv (.t 0), none⟩,
 ⟨some 8, .call n_parser_reader_number [((.t 7), false)] true, none⟩,
 ⟨some 9, .fa (.t 3) 5 (some 3), none⟩,
 ⟨none, .st (.t 9) (.t 8) 1 false (some 3), none⟩])
 (.seq (.reg [
 ⟨some 10, .mv (.t 0), none⟩,
 ⟨some 11, .call n_parser_reader_needWord [((.t 10), false), ((.c (.str [112, 111, 105, 110, 116, 115])), false)] true, none⟩])
 (.seq (.reg [
 ⟨some 12, .mv (.t 0), none⟩,
 ⟨some 13, .call n_parser_reader_needWord [((.t 12), false), ((.c (.str [119, 104, 101, 110])), false)] true, none⟩])
 (.seq (.reg [
 ⟨some 14, .mv (.t 0), none⟩,
 ⟨some 15, .call n_parser_reader_either [((.t 14), false)] true, none⟩,
 ⟨some 16, .fa (.t 3) 1 (some 3), none⟩,
 ⟨none, .st (.t 16) (.t 15) 4 false (some 3), none⟩])
 (.seq (.reg [
 ⟨some 17, .mv (.t 0), none⟩,
 ⟨some 18, .call n_parser_reader_needSymbol [((.t 17), false), ((.c (.str [59])), false)] true, none⟩])
 (.seq (.reg [
 ⟨some 19, .ld (.t 3) (some 6) false (some 3), none⟩,
 ⟨none, .st (.t 2) (.t 19) 6 false (some 2), none⟩])
 .ret)))))))), [.cell 2 (some 6)]⟩

/- billing/parser.fail -/
def a_parser_fail : AF := ⟨9, (.seq (.reg [
 ⟨some 2, .boxr (.t 0), none⟩])
 (.reg [
 ⟨some 4, .fa (.t 2) 2 none, none⟩,
 ⟨some 5, .ld (.t 4) none false none, none⟩,
 ⟨some 6, .mv (.t 1), none⟩,
 ⟨some 7, .build [(.int .i64 0), (.int .i64 0)] [(0, 1, (.t 5)), (1, 1, (.t 6))], none⟩,
 ⟨some 8, .mki 88 (.t 7), none⟩,
 ⟨none, .pan (.t 8), none⟩])), []⟩

/- (*billing/parser.reader).both -/
def parser_reader_both_l1b : AC := (.seq (.seq (.reg [
 ⟨some 6, .mv (.t 0), none⟩,
 ⟨some 7, .call n_parser_reader_takeWord [((.t 6), false), ((.c (.str [97, 110, 100])), false)] true, none⟩])
 (.cond (.t 7) .skip
 (.exit 0)))
 (.blk 1 (.preg [
 ⟨some 8, .ld (.t 3) (some 4) false (some 3), none⟩,
 ⟨some 9, .cp (.t 0), none⟩,
 ⟨some 10, .call n_parser_reader_negated [((.t 9), false)] true, none⟩,
 ⟨some 11, .call n_parser_two [((.c (.int .i64 5)), false), ((.t 8), false), ((.t 10), false)] false, none⟩,
 ⟨none, .st (.t 3) (.t 11) 4 false (some 3), none⟩])))
def parser_reader_both_l1 : AC := .pre mk_31 parser_reader_both_l1b
@[go_sem] theorem parser_reader_both_l1_go : LoopRule parser_reader_both_l1 parser_reader_both_l1b mk_31 := loopRule
@[go_sem] theorem parser_reader_both_l1_lp : LpRule parser_reader_both_l1 parser_reader_both_l1b mk_31 := lpRule
def parser_reader_both_k1b : AC := (.seq (.reg [
 ⟨some 12, .ld (.t 3) (some 4) false (some 3), none⟩,
 ⟨none, .st (.t 2) (.t 12) 4 false (some 2), none⟩])
 .ret)
def parser_reader_both_k1 : AC := .pre mk_30 parser_reader_both_k1b
def a_parser_reader_both : AF := ⟨13, (.seq (.reg [
 ⟨some 2, .newbox [(.int .i64 0), (.int .i64 0), (.str []), (.sl false 4 [])], none⟩])
 (.seq (.reg [
 ⟨some 4, .mv (.t 0), none⟩,
 ⟨some 5, .call n_parser_reader_negated [((.t 4), false)] true, none⟩,
 ⟨some 3, .newbox [(.int .i64 0), (.int .i64 0), (.str []), (.sl false 4 [])], none⟩,
 ⟨none, .st (.t 3) (.t 5) 4 false (some 3), none⟩])
 (.seq (.blk 0 (.pre mk_29 (.loop parser_reader_both_l1)))
 parser_reader_both_k1))), [.cell 2 (some 4)]⟩

/- billing/parser.two -/
def a_parser_two : AF := ⟨12, (.seq (.reg [
 ⟨some 4, .boxr (.t 1), none⟩,
 ⟨some 5, .boxr (.t 2), none⟩,
 ⟨some 6, .newbox [(.int .i64 0), (.int .i64 0), (.str []), (.sl false 4 [])], none⟩])
 (.seq (.reg [
 ⟨some 7, .mv (.t 0), none⟩,
 ⟨some 8, .ld (.t 4) (some 4) false none, none⟩,
 ⟨some 9, .ld (.t 5) (some 4) false none, none⟩,
 ⟨some 10, .bsl 4 2 (.agg [(.int .i64 0), (.int .i64 0), (.str []), (.sl false 4 [])]) [(0, (.t 8)), (1, (.t 9))], none⟩,
 ⟨none, .cm 10, none⟩,
 ⟨some 11, .build [(.int .i64 0), (.int .i64 0), (.str []), (.sl false 4 [])] [(0, 1, (.t 7)), (3, 1, (.t 10))], none⟩,
 ⟨none, .st (.t 6) (.t 11) 4 false (some 6), none⟩])
 .ret)), [.cell 6 (some 4)]⟩
@[go_sem] def mk_40 : List Bool := [K0,K0,K1,K1,K1,K1,K1,K1,K1,K1,K1,K1,K1,K1,K1,K1,K1,K1,K1,K1,K1,K1,K1,K1,K1,K1,K1,K1,K1,K1,K1,K1,K1,K1]

/- (*billing/lexer.scanner).blanks -/
def lexer_scanner_blanks_l1b : AC := (.seq (.seq (.dreg [
 ⟨some 34, .cp (.t 0), none⟩,
 ⟨some 35, .nck (.t 34) none, none⟩,
 ⟨some 36, .fa (.t 35) 1 none, none⟩,
 ⟨some 37, .ld (.t 36) none false none, none⟩,
 ⟨some 38, .cp (.t 0), none⟩,
 ⟨some 39, .nck (.t 38) none, none⟩,
 ⟨some 40, .fa (.t 39) 0 none, none⟩,
 ⟨some 41, .ld (.t 40) none false none, none⟩,
 ⟨some 42, .len true (.t 41) none, none⟩,
 ⟨some 43, .bin .lss (.t 37) (.t 42), none⟩,
 ⟨some 44, .cp (.t 43), none⟩,
 ⟨some 45, .cp (.t 0), some (44, true)⟩,
 ⟨some 46, .nck (.t 45) none, some (44, true)⟩,
 ⟨some 47, .fa (.t 46) 0 none, some (44, true)⟩,
 ⟨some 48, .ld (.t 47) none false none, some (44, true)⟩,
 ⟨some 49, .cp (.t 0), some (44, true)⟩,
 ⟨some 50, .nck (.t 49) none, some (44, true)⟩,
 ⟨some 51, .fa (.t 50) 1 none, some (44, true)⟩,
 ⟨some 52, .ld (.t 51) none false none, some (44, true)⟩,
 ⟨some 53, .idx (.t 48) (.t 52) none 1 false, some (44, true)⟩,
 ⟨some 54, .bin .neq (.t 53) (.c (.int .u8 10)), some (44, true)⟩,
 ⟨some 55, .pick (.t 44) (.t 54) (.c (.bool false)), none⟩])
 (.cond (.t 55) .skip
 (.exit 3)))
 (.blk 4 (.reg [
 ⟨some 56, .mv (.t 0), none⟩,
 ⟨some 57, .nck (.t 56) none, none⟩,
 ⟨some 58, .fa (.t 57) 1 none, none⟩,
 ⟨some 59, .ld (.t 58) none false none, none⟩,
 ⟨some 60, .bin .add (.t 59) (.c (.int .i64 1)), none⟩,
 ⟨some 61, .nck (.t 56) none, none⟩,
 ⟨some 62, .fa (.t 61) 1 none, none⟩,
 ⟨none, .st (.t 62) (.t 60) 1 false none, none⟩])))
@[go_sem] def mk_41 : List Bool := [K0,K0,K0,K0,K0,K0,K0,K0,K0,K0,K0,K0,K0,K0,K0,K0,K0,K0,K0,K0,K0,K0,K0,K0,K0,K0,K0,K0,K0,K0,K0,K0,K0,K0,K1,K1,K1,K1,K1,K1,K1,K1,K1,K1,K1,K1,K1,K1,K1,K1,K1,K1,K1,K1,K1,K1,K1,K1,K1,K1,K1,K1,K1]
def lexer_scanner_blanks_l1 : AC := .pre mk_41 lexer_scanner_blanks_l1b
@[go_sem] theorem lexer_scanner_blanks_l1_go : LoopRule lexer_scanner_blanks_l1 lexer_scanner_blanks_l1b mk_41 := loopRule
@[go_sem] theorem lexer_scanner_blanks_l1_lp : LpRule lexer_scanner_blanks_l1 lexer_scanner_blanks_l1b mk_41 := lpRule
def lexer_scanner_blanks_l2b : AC := (.seq (.seq (.dreg [
 ⟨some 2, .cp (.t 0), none⟩,
 ⟨some 3, .nck (.t 2) none, none⟩,
 ⟨some 4, .fa (.t 3) 1 none, none⟩,
 ⟨some 5, .ld (.t 4) none false none, none⟩,
 ⟨some 6, .cp (.t 0), none⟩,
 ⟨some 7, .nck (.t 6) none, none⟩,
 ⟨some 8, .fa (.t 7) 0 none, none⟩,
 ⟨some 9, .ld (.t 8) none false none, none⟩,
 ⟨some 10, .len true (.t 9) none, none⟩,
 ⟨some 11, .bin .lss (.t 5) (.t 10), none⟩])
 (.cond (.t 11) .skip
 (.exit 0)))
 (.blk 1 (.seq (.dreg [
 ⟨some 12, .cp (.t 0), none⟩,
 ⟨some 13, .nck (.t 12) none, none⟩,
 ⟨some 14, .fa (.t 13) 0 none, none⟩,
 ⟨some 15, .ld (.t 14) none false none, none⟩,
 ⟨some 16, .cp (.t 0), none⟩,
 ⟨some 17, .nck (.t 16) none, none⟩,
 ⟨some 18, .fa (.t 17) 1 none, none⟩,
 ⟨some 19, .ld (.t 18) none false none, none⟩,
 ⟨some 20, .idx (.t 15) (.t 19) none 1 false, none⟩])
 (.blk 2 (.seq (.seq (.reg [
 ⟨some 22, .bin .eql (.t 20) (.c (.int .u8 32)), none⟩,
 ⟨some 21, .mv (.t 22), none⟩])
 (.cond (.t 21) .skip
 (.seq (.reg [
 ⟨some 23, .bin .eql (.t 20) (.c (.int .u8 9)), none⟩,
 ⟨some 21, .mv (.t 23), none⟩])
 (.cond (.t 21) .skip
 (.reg [
 ⟨some 24, .bin .eql (.t 20) (.c (.int .u8 10)), none⟩,
 ⟨some 21, .mv (.t 24), none⟩])))))
 (.cond (.t 21) (.reg [
 ⟨some 25, .mv (.t 0), none⟩,
 ⟨some 26, .nck (.t 25) none, none⟩,
 ⟨some 27, .fa (.t 26) 1 none, none⟩,
 ⟨some 28, .ld (.t 27) none false none, none⟩,
 ⟨some 29, .bin .add (.t 28) (.c (.int .i64 1)), none⟩,
 ⟨some 30, .nck (.t 25) none, none⟩,
 ⟨some 31, .fa (.t 30) 1 none, none⟩,
 ⟨none, .st (.t 31) (.t 29) 1 false none, none⟩])
 (.seq (.reg [
 ⟨some 33, .bin .eql (.t 20) (.c (.int .u8 35)), none⟩,
 ⟨some 32, .mv (.t 33), none⟩])
 (.cond (.t 32) (.blk 3 (.pre mk_40 (.loop lexer_scanner_blanks_l1)))
 .ret))))))))
@[go_sem] def mk_42 : List Bool := [K0,K0,K1,K1,K1,K1,K1,K1,K1,K1,K1,K1,K1,K1,K1,K1,K1,K1,K1,K1,K1,K1,K1,K1,K1,K1,K1,K1,K1,K1,K1,K1,K1,K1,K1,K1,K1,K1,K1,K1,K1,K1,K1,K1,K1,K1,K1,K1,K1,K1,K1,K1,K1,K1,K1,K1,K1,K1,K1,K1,K1,K1,K1]
def lexer_scanner_blanks_l2 : AC := .pre mk_42 lexer_scanner_blanks_l2b
@[go_sem] theorem lexer_scanner_blanks_l2_go : LoopRule lexer_scanner_blanks_l2 lexer_scanner_blanks_l2b mk_42 := loopRule
@[go_sem] theorem lexer_scanner_blanks_l2_lp : LpRule lexer_scanner_blanks_l2 lexer_scanner_blanks_l2b mk_42 := lpRule
def a_lexer_scanner_blanks : AF := ⟨63, (.blk 0 (.loop lexer_scanner_blanks_l2)), []⟩

/- billing/lexer.lower -/
def a_lexer_lower : AF := ⟨9, (.seq (.reg [
 ⟨some 2, .mv (.c (.bool false)), none⟩])
 (.seq (.reg [
 ⟨some 3, .mv (.t 0), none⟩,
 ⟨some 4, .bin .geq (.t 3) (.c (.int .u8 97)), none⟩,
 ⟨some 5, .mv (.t 4), none⟩,
 ⟨some 6, .mv (.t 0), some (5, true)⟩,
 ⟨some 7, .bin .leq (.t 6) (.c (.int .u8 122)), some (5, true)⟩,
 ⟨some 8, .pick (.t 5) (.t 7) (.c (.bool false)), none⟩,
 ⟨some 2, .mv (.t 8), none⟩])
 .ret)), [.tmp 2]⟩
@[go_sem] def mk_43 : List Bool := [K0,K0,K0,K0,K1,K1,K1,K1]
@[go_sem] def mk_44 : List Bool := [K0,K0,K0,K0,K1,K1,K1,K1,K1,K1,K1,K1,K1,K1,K1,K1,K1,K1,K1,K1,K1,K1,K1,K1,K1,K1,K1,K1,K1,K1,K1,K1,K1,K1,K1,K1,K1,K1,K1,K1,K1,K1,K1,K1,K1,K1,K1,K1,K1,K1,K1,K1,K1,K1,K1,K1,K1,K1,K1,K1,K1]

/- (*billing/lexer.scanner).word -/
def lexer_scanner_word_l1b : AC := (.seq (.seq (.dreg [
 ⟨some 8, .cp (.t 0), none⟩,
 ⟨some 9, .nck (.t 8) none, none⟩,
 ⟨some 10, .fa (.t 9) 1 none, none⟩,
 ⟨some 11, .ld (.t 10) none false none, none⟩,
 ⟨some 12, .cp (.t 0), none⟩,
 ⟨some 13, .nck (.t 12) none, none⟩,
 ⟨some 14, .fa (.t 13) 0 none, none⟩,
 ⟨some 15, .ld (.t 14) none false none, none⟩,
 ⟨some 16, .len true (.t 15) none, none⟩,
 ⟨some 17, .bin .lss (.t 11) (.t 16), none⟩,
 ⟨some 18, .cp (.t 17), none⟩,
 ⟨some 19, .cp (.t 0), some (18, true)⟩,
 ⟨some 20, .nck (.t 19) none, some (18, true)⟩,
 ⟨some 21, .fa (.t 20) 0 none, some (18, true)⟩,
 ⟨some 22, .ld (.t 21) none false none, some (18, true)⟩,
 ⟨some 23, .cp (.t 0), some (18, true)⟩,
 ⟨some 24, .nck (.t 23) none, some (18, true)⟩,
 ⟨some 25, .fa (.t 24) 1 none, some (18, true)⟩,
 ⟨some 26, .ld (.t 25) none false none, some (18, true)⟩,
 ⟨some 27, .idx (.t 22) (.t 26) none 1 false, some (18, true)⟩,
 ⟨some 28, .call n_lexer_lower [((.t 27), false)] false, some (18, true)⟩,
 ⟨some 29, .cp (.t 28), some (18, true)⟩,
 ⟨some 30, .cp (.t 0), some (29, false)⟩,
 ⟨some 31, .nck (.t 30) none, some (29, false)⟩,
 ⟨some 32, .fa (.t 31) 0 none, some (29, false)⟩,
 ⟨some 33, .ld (.t 32) none false none, some (29, false)⟩,
 ⟨some 34, .cp (.t 0), some (29, false)⟩,
 ⟨some 35, .nck (.t 34) none, some (29, false)⟩,
 ⟨some 36, .fa (.t 35) 1 none, some (29, false)⟩,
 ⟨some 37, .ld (.t 36) none false none, some (29, false)⟩,
 ⟨some 38, .idx (.t 33) (.t 37) none 1 false, some (29, false)⟩,
 ⟨some 39, .call n_lexer_digit [((.t 38), false)] false, some (29, false)⟩,
 ⟨some 40, .pick (.t 29) (.c (.bool true)) (.t 39), some (18, true)⟩,
 ⟨some 41, .cp (.t 40), some (18, true)⟩,
 ⟨some 42, .cp (.t 0), some (41, false)⟩,
 ⟨some 43, .nck (.t 42) none, some (41, false)⟩,
 ⟨some 44, .fa (.t 43) 0 none, some (41, false)⟩,
 ⟨some 45, .ld (.t 44) none false none, some (41, false)⟩,
 ⟨some 46, .cp (.t 0), some (41, false)⟩,
 ⟨some 47, .nck (.t 46) none, some (41, false)⟩,
 ⟨some 48, .fa (.t 47) 1 none, some (41, false)⟩,
 ⟨some 49, .ld (.t 48) none false none, some (41, false)⟩,
 ⟨some 50, .idx (.t 45) (.t 49) none 1 false, some (41, false)⟩,
 ⟨some 51, .bin .eql (.t 50) (.c (.int .u8 45)), some (41, false)⟩,
 ⟨some 52, .pick (.t 41) (.c (.bool true)) (.t 51), some (18, true)⟩,
 ⟨some 53, .pick (.t 18) (.t 52) (.c (.bool false)), none⟩])
 (.cond (.t 53) .skip
 (.exit 0)))
 (.blk 1 (.reg [
 ⟨some 54, .mv (.t 0), none⟩,
 ⟨some 55, .nck (.t 54) none, none⟩,
 ⟨some 56, .fa (.t 55) 1 none, none⟩,
 ⟨some 57, .ld (.t 56) none false none, none⟩,
 ⟨some 58, .bin .add (.t 57) (.c (.int .i64 1)), none⟩,
 ⟨some 59, .nck (.t 54) none, none⟩,
 ⟨some 60, .fa (.t 59) 1 none, none⟩,
 ⟨none, .st (.t 60) (.t 58) 1 false none, none⟩])))
@[go_sem] def mk_45 : List Bool := [K0,K0,K0,K0,K0,K0,K0,K0,K1,K1,K1,K1,K1,K1,K1,K1,K1,K1,K1,K1,K1,K1,K1,K1,K1,K1,K1,K1,K1,K1,K1,K1,K1,K1,K1,K1,K1,K1,K1,K1,K1,K1,K1,K1,K1,K1,K1,K1,K1,K1,K1,K1,K1,K1,K1,K1,K1,K1,K1,K1,K1]
def lexer_scanner_word_l1 : AC := .pre mk_45 lexer_scanner_word_l1b
@[go_sem] theorem lexer_scanner_word_l1_go : LoopRule lexer_scanner_word_l1 lexer_scanner_word_l1b mk_45 := loopRule
@[go_sem] theorem lexer_scanner_word_l1_lp : LpRule lexer_scanner_word_l1 lexer_scanner_word_l1b mk_45 := lpRule
def lexer_scanner_word_k1b : AC := (.seq (.seq (.reg [
 ⟨some 61, .mv (.t 0), none⟩,
 ⟨some 62, .nck (.t 61) none, none⟩,
 ⟨some 63, .fa (.t 62) 1 none, none⟩,
 ⟨some 64, .ld (.t 63) none false none, none⟩,
 ⟨some 65, .mv (.t 3), none⟩,
 ⟨some 66, .bin .sub (.t 64) (.t 65), none⟩,
 ⟨some 67, .bin .gtr (.t 66) (.c (.int .i64 24)), none⟩])
 (.cond (.t 67) (.reg [
 ⟨some 68, .mv (.t 3), none⟩,
 ⟨some 69, .call n_lexer_fail [((.t 68), false), ((.c (.int .i64 5)), false)] false, none⟩])
 .skip))
 (.seq (.dreg [
 ⟨some 70, .cp (.t 3), none⟩,
 ⟨some 71, .cp (.t 0), none⟩,
 ⟨some 72, .nck (.t 71) none, none⟩,
 ⟨some 73, .fa (.t 72) 0 none, none⟩,
 ⟨some 74, .ld (.t 73) none false none, none⟩,
 ⟨some 75, .cp (.t 3), none⟩,
 ⟨some 76, .cp (.t 0), none⟩,
 ⟨some 77, .nck (.t 76) none, none⟩,
 ⟨some 78, .fa (.t 77) 1 none, none⟩,
 ⟨some 79, .ld (.t 78) none false none, none⟩,
 ⟨some 80, .slc none (.t 74) (some (.t 75)) (some (.t 79)) none, none⟩,
 ⟨some 81, .build [(.int .i64 0), (.int .i64 0), (.int .i64 0), (.str [])] [(0, 1, (.c (.int .i64 1))), (2, 1, (.t 70)), (3, 1, (.t 80))], none⟩,
 ⟨none, .st (.t 2) (.t 81) 4 false (some 2), none⟩])
 .ret))
def lexer_scanner_word_k1 : AC := .pre mk_44 lexer_scanner_word_k1b
def a_lexer_scanner_word : AF := ⟨82, (.seq (.reg [
 ⟨some 2, .newbox [(.int .i64 0), (.int .i64 0), (.int .i64 0), (.str [])], none⟩])
 (.seq (.reg [
 ⟨some 4, .mv (.t 0), none⟩,
 ⟨some 5, .nck (.t 4) none, none⟩,
 ⟨some 6, .fa (.t 5) 1 none, none⟩,
 ⟨some 7, .ld (.t 6) none false none, none⟩,
 ⟨some 3, .mv (.t 7), none⟩])
 (.seq (.blk 0 (.pre mk_43 (.loop lexer_scanner_word_l1)))
 lexer_scanner_word_k1))), [.cell 2 (some 4)]⟩

/- billing/lexer.digit -/
def a_lexer_digit : AF := ⟨9, (.seq (.reg [
 ⟨some 2, .mv (.c (.bool false)), none⟩])
 (.seq (.reg [
 ⟨some 3, .mv (.t 0), none⟩,
 ⟨some 4, .bin .geq (.t 3) (.c (.int .u8 48)), none⟩,
 ⟨some 5, .mv (.t 4), none⟩,
 ⟨some 6, .mv (.t 0), some (5, true)⟩,
 ⟨some 7, .bin .leq (.t 6) (.c (.int .u8 57)), some (5, true)⟩,
 ⟨some 8, .pick (.t 5) (.t 7) (.c (.bool false)), none⟩,
 ⟨some 2, .mv (.t 8), none⟩])
 .ret)), [.tmp 2]⟩
@[go_sem] def mk_46 : List Bool := [K0,K0,K0,K0,K0,K1,K1,K1,K1]
@[go_sem] def mk_47 : List Bool := [K0,K0,K0,K0,K0,K1,K1,K1,K1,K1,K1,K1,K1,K1,K1,K1,K1,K1,K1,K1,K1,K1,K1,K1,K1,K1,K1,K1,K1,K1,K1,K1,K1,K1,K1,K1,K1,K1,K1,K1,K1,K1,K1,K1,K1,K1,K1,K1,K1,K1,K1,K1,K1,K1,K1,K1,K1,K1,K1]

/- (*billing/lexer.scanner).number -/
def lexer_scanner_number_l1b : AC := (.seq (.seq (.dreg [
 ⟨some 9, .cp (.t 0), none⟩,
 ⟨some 10, .nck (.t 9) none, none⟩,
 ⟨some 11, .fa (.t 10) 1 none, none⟩,
 ⟨some 12, .ld (.t 11) none false none, none⟩,
 ⟨some 13, .cp (.t 0), none⟩,
 ⟨some 14, .nck (.t 13) none, none⟩,
 ⟨some 15, .fa (.t 14) 0 none, none⟩,
 ⟨some 16, .ld (.t 15) none false none, none⟩,
 ⟨some 17, .len true (.t 16) none, none⟩,
 ⟨some 18, .bin .lss (.t 12) (.t 17), none⟩,
 ⟨some 19, .cp (.t 18), none⟩,
 ⟨some 20, .cp (.t 0), some (19, true)⟩,
 ⟨some 21, .nck (.t 20) none, some (19, true)⟩,
 ⟨some 22, .fa (.t 21) 0 none, some (19, true)⟩,
 ⟨some 23, .ld (.t 22) none false none, some (19, true)⟩,
 ⟨some 24, .cp (.t 0), some (19, true)⟩,
 ⟨some 25, .nck (.t 24) none, some (19, true)⟩,
 ⟨some 26, .fa (.t 25) 1 none, some (19, true)⟩,
 ⟨some 27, .ld (.t 26) none false none, some (19, true)⟩,
 ⟨some 28, .idx (.t 23) (.t 27) none 1 false, some (19, true)⟩,
 ⟨some 29, .call n_lexer_digit [((.t 28), false)] false, some (19, true)⟩,
 ⟨some 30, .pick (.t 19) (.t 29) (.c (.bool false)), none⟩])
 (.cond (.t 30) .skip
 (.exit 0)))
 (.blk 1 (.seq (.seq (.reg [
 ⟨some 31, .mv (.t 0), none⟩,
 ⟨some 32, .nck (.t 31) none, none⟩,
 ⟨some 33, .fa (.t 32) 1 none, none⟩,
 ⟨some 34, .ld (.t 33) none false none, none⟩,
 ⟨some 35, .mv (.t 3), none⟩,
 ⟨some 36, .bin .sub (.t 34) (.t 35), none⟩,
 ⟨some 37, .bin .lss (.t 36) (.c (.int .i64 16)), none⟩])
 (.cond (.t 37) (.dreg [
 ⟨some 38, .cp (.t 4), none⟩,
 ⟨some 39, .bin .mul (.t 38) (.c (.int .i64 10)), none⟩,
 ⟨some 40, .cp (.t 0), none⟩,
 ⟨some 41, .nck (.t 40) none, none⟩,
 ⟨some 42, .fa (.t 41) 0 none, none⟩,
 ⟨some 43, .ld (.t 42) none false none, none⟩,
 ⟨some 44, .cp (.t 0), none⟩,
 ⟨some 45, .nck (.t 44) none, none⟩,
 ⟨some 46, .fa (.t 45) 1 none, none⟩,
 ⟨some 47, .ld (.t 46) none false none, none⟩,
 ⟨some 48, .idx (.t 43) (.t 47) none 1 false, none⟩,
 ⟨some 49, .bin .sub (.t 48) (.c (.int .u8 48)), none⟩,
 ⟨some 50, .cvi .i64 (.t 49), none⟩,
 ⟨some 51, .bin .add (.t 39) (.t 50), none⟩,
 ⟨some 4, .cp (.t 51), none⟩])
 .skip))
 (.reg [
 ⟨some 52, .mv (.t 0), none⟩,
 ⟨some 53, .nck (.t 52) none, none⟩,
 ⟨some 54, .fa (.t 53) 1 none, none⟩,
 ⟨some 55, .ld (.t 54) none false none, none⟩,
 ⟨some 56, .bin .add (.t 55) (.c (.int .i64 1)), none⟩,
 ⟨some 57, .nck (.t 52) none, none⟩,
 ⟨some 58, .fa (.t 57) 1 none, none⟩,
 ⟨none, .st (.t 58) (.t 56) 1 false none, none⟩]))))
@[go_sem] def mk_48 : List Bool := [K0,K0,K0,K0,K0,K0,K0,K0,K0,K1,K1,K1,K1,K1,K1,K1,K1,K1,K1,K1,K1,K1,K1,K1,K1,K1,K1,K1,K1,K1,K1,K1,K1,K1,K1,K1,K1,K1,K1,K1,K1,K1,K1,K1,K1,K1,K1,K1,K1,K1,K1,K1,K1,K1,K1,K1,K1,K1,K1]
def lexer_scanner_number_l1 : AC := .pre mk_48 lexer_scanner_number_l1b
@[go_sem] theorem lexer_scanner_number_l1_go : LoopRule lexer_scanner_number_l1 lexer_scanner_number_l1b mk_48 := loopRule
@[go_sem] theorem lexer_scanner_number_l1_lp : LpRule lexer_scanner_number_l1 lexer_scanner_number_l1b mk_48 := lpRule
def lexer_scanner_number_k1b : AC := (.seq (.seq (.reg [
 ⟨some 59, .mv (.t 0), none⟩,
 ⟨some 60, .nck (.t 59) none, none⟩,
 ⟨some 61, .fa (.t 60) 1 none, none⟩,
 ⟨some 62, .ld (.t 61) none false none, none⟩,
 ⟨some 63, .mv (.t 3), none⟩,
 ⟨some 64, .bin .sub (.t 62) (.t 63), none⟩,
 ⟨some 65, .bin .gtr (.t 64) (.c (.int .i64 16)), none⟩])
 (.cond (.t 65) (.reg [
 ⟨some 66, .mv (.t 3), none⟩,
 ⟨some 67, .call n_lexer_fail [((.t 66), false), ((.c (.int .i64 5)), false)] false, none⟩])
 .skip))
 (.seq (.seq (.dreg [
 ⟨some 68, .cp (.t 0), none⟩,
 ⟨some 69, .nck (.t 68) none, none⟩,
 ⟨some 70, .fa (.t 69) 1 none, none⟩,
 ⟨some 71, .ld (.t 70) none false none, none⟩,
 ⟨some 72, .cp (.t 0), none⟩,
 ⟨some 73, .nck (.t 72) none, none⟩,
 ⟨some 74, .fa (.t 73) 0 none, none⟩,
 ⟨some 75, .ld (.t 74) none false none, none⟩,
 ⟨some 76, .len true (.t 75) none, none⟩,
 ⟨some 77, .bin .lss (.t 71) (.t 76), none⟩,
 ⟨some 78, .cp (.t 77), none⟩,
 ⟨some 79, .cp (.t 0), some (78, true)⟩,
 ⟨some 80, .nck (.t 79) none, some (78, true)⟩,
 ⟨some 81, .fa (.t 80) 0 none, some (78, true)⟩,
 ⟨some 82, .ld (.t 81) none false none, some (78, true)⟩,
 ⟨some 83, .cp (.t 0), some (78, true)⟩,
 ⟨some 84, .nck (.t 83) none, some (78, true)⟩,
 ⟨some 85, .fa (.t 84) 1 none, some (78, true)⟩,
 ⟨some 86, .ld (.t 85) none false none, some (78, true)⟩,
 ⟨some 87, .idx (.t 82) (.t 86) none 1 false, some (78, true)⟩,
 ⟨some 88, .call n_lexer_lower [((.t 87), false)] false, some (78, true)⟩,
 ⟨some 89, .pick (.t 78) (.t 88) (.c (.bool false)), none⟩])
 (.cond (.t 89) (.reg [
 ⟨some 90, .mv (.t 3), none⟩,
 ⟨some 91, .call n_lexer_fail [((.t 90), false), ((.c (.int .i64 1)), false)] false, none⟩])
 .skip))
 (.seq (.dreg [
 ⟨some 92, .cp (.t 4), none⟩,
 ⟨some 93, .cp (.t 3), none⟩,
 ⟨some 94, .cp (.t 0), none⟩,
 ⟨some 95, .nck (.t 94) none, none⟩,
 ⟨some 96, .fa (.t 95) 0 none, none⟩,
 ⟨some 97, .ld (.t 96) none false none, none⟩,
 ⟨some 98, .cp (.t 3), none⟩,
 ⟨some 99, .cp (.t 0), none⟩,
 ⟨some 100, .nck (.t 99) none, none⟩,
 ⟨some 101, .fa (.t 100) 1 none, none⟩,
 ⟨some 102, .ld (.t 101) none false none, none⟩,
 ⟨some 103, .slc none (.t 97) (some (.t 98)) (some (.t 102)) none, none⟩,
 ⟨some 104, .build [(.int .i64 0), (.int .i64 0), (.int .i64 0), (.str [])] [(0, 1, (.c (.int .i64 2))), (1, 1, (.t 92)), (2, 1, (.t 93)), (3, 1, (.t 103))], none⟩,
 ⟨none, .st (.t 2) (.t 104) 4 false (some 2), none⟩])
 .ret)))
def lexer_scanner_number_k1 : AC := .pre mk_47 lexer_scanner_number_k1b
def a_lexer_scanner_number : AF := ⟨105, (.seq (.reg [
 ⟨some 2, .newbox [(.int .i64 0), (.int .i64 0), (.int .i64 0), (.str [])], none⟩])
 (.seq (.reg [
 ⟨some 5, .mv (.t 0), none⟩,
 ⟨some 6, .nck (.t 5) none, none⟩,
 ⟨some 7, .fa (.t 6) 1 none, none⟩,
 ⟨some 8, .ld (.t 7) none false none, none⟩,
 ⟨some 3, .mv (.t 8), none⟩])
 (.seq (.reg [
 ⟨some 4, .mv (.c (.int .i64 0)), none⟩])
 (.seq (.blk 0 (.pre mk_46 (.loop lexer_scanner_number_l1)))
 lexer_scanner_number_k1)))), [.cell 2 (some 4)]⟩
@[go_sem] def mk_49 : List Bool := [K0,K0,K0,K0,K0,K1,K1,K1,K1,K1,K1,K1,K1,K1,K1,K1]
@[go_sem] def mk_50 : List Bool := [K0,K0,K0,K0,K0,K1,K1,K1,K1,K1,K1,K1,K1,K1,K1,K1,K1,K1,K1,K1,K1,K1,K1,K1,K1,K1,K1,K1,K1,K1,K1,K1,K1,K1,K1,K1,K1,K1,K1,K1,K1,K1,K1,K1,K1,K1,K1,K1,K1,K1,K1,K1,K1,K1,K1,K1,K1,K1,K1,K1,K1,K1,K1,K1,K1,K1,K1,K1,K1]

/- (*billing/lexer.scanner).text -/
def lexer_scanner_text_l1b : AC := (.seq (.seq (.dreg [
 ⟨some 16, .cp (.t 0), none⟩,
 ⟨some 17, .nck (.t 16) none, none⟩,
 ⟨some 18, .fa (.t 17) 1 none, none⟩,
 ⟨some 19, .ld (.t 18) none false none, none⟩,
 ⟨some 20, .cp (.t 0), none⟩,
 ⟨some 21, .nck (.t 20) none, none⟩,
 ⟨some 22, .fa (.t 21) 0 none, none⟩,
 ⟨some 23, .ld (.t 22) none false none, none⟩,
 ⟨some 24, .len true (.t 23) none, none⟩,
 ⟨some 25, .bin .lss (.t 19) (.t 24), none⟩,
 ⟨some 26, .cp (.t 25), none⟩,
 ⟨some 27, .cp (.t 0), some (26, true)⟩,
 ⟨some 28, .nck (.t 27) none, some (26, true)⟩,
 ⟨some 29, .fa (.t 28) 0 none, some (26, true)⟩,
 ⟨some 30, .ld (.t 29) none false none, some (26, true)⟩,
 ⟨some 31, .cp (.t 0), some (26, true)⟩,
 ⟨some 32, .nck (.t 31) none, some (26, true)⟩,
 ⟨some 33, .fa (.t 32) 1 none, some (26, true)⟩,
 ⟨some 34, .ld (.t 33) none false none, some (26, true)⟩,
 ⟨some 35, .idx (.t 30) (.t 34) none 1 false, some (26, true)⟩,
 ⟨some 36, .bin .neq (.t 35) (.c (.int .u8 34)), some (26, true)⟩,
 ⟨some 37, .pick (.t 26) (.t 36) (.c (.bool false)), none⟩])
 (.cond (.t 37) .skip
 (.exit 0)))
 (.blk 1 (.seq (.seq (.dreg [
 ⟨some 38, .cp (.t 0), none⟩,
 ⟨some 39, .nck (.t 38) none, none⟩,
 ⟨some 40, .fa (.t 39) 0 none, none⟩,
 ⟨some 41, .ld (.t 40) none false none, none⟩,
 ⟨some 42, .cp (.t 0), none⟩,
 ⟨some 43, .nck (.t 42) none, none⟩,
 ⟨some 44, .fa (.t 43) 1 none, none⟩,
 ⟨some 45, .ld (.t 44) none false none, none⟩,
 ⟨some 46, .idx (.t 41) (.t 45) none 1 false, none⟩,
 ⟨some 47, .bin .lss (.t 46) (.c (.int .u8 32)), none⟩,
 ⟨some 48, .cp (.t 47), none⟩,
 ⟨some 49, .cp (.t 0), some (48, false)⟩,
 ⟨some 50, .nck (.t 49) none, some (48, false)⟩,
 ⟨some 51, .fa (.t 50) 0 none, some (48, false)⟩,
 ⟨some 52, .ld (.t 51) none false none, some (48, false)⟩,
 ⟨some 53, .cp (.t 0), some (48, false)⟩,
 ⟨some 54, .nck (.t 53) none, some (48, false)⟩,
 ⟨some 55, .fa (.t 54) 1 none, some (48, false)⟩,
 ⟨some 56, .ld (.t 55) none false none, some (48, false)⟩,
 ⟨some 57, .idx (.t 52) (.t 56) none 1 false, some (48, false)⟩,
 ⟨some 58, .bin .gtr (.t 57) (.c (.int .u8 126)), some (48, false)⟩,
 ⟨some 59, .pick (.t 48) (.c (.bool true)) (.t 58), none⟩])
 (.cond (.t 59) (.reg [
 ⟨some 60, .mv (.t 3), none⟩,
 ⟨some 61, .call n_lexer_fail [((.t 60), false), ((.c (.int .i64 1)), false)] false, none⟩])
 .skip))
 (.reg [
 ⟨some 62, .mv (.t 0), none⟩,
 ⟨some 63, .nck (.t 62) none, none⟩,
 ⟨some 64, .fa (.t 63) 1 none, none⟩,
 ⟨some 65, .ld (.t 64) none false none, none⟩,
 ⟨some 66, .bin .add (.t 65) (.c (.int .i64 1)), none⟩,
 ⟨some 67, .nck (.t 62) none, none⟩,
 ⟨some 68, .fa (.t 67) 1 none, none⟩,
 ⟨none, .st (.t 68) (.t 66) 1 false none, none⟩]))))
@[go_sem] def mk_51 : List Bool := [K0,K0,K0,K0,K0,K0,K0,K0,K0,K0,K0,K0,K0,K0,K0,K0,K1,K1,K1,K1,K1,K1,K1,K1,K1,K1,K1,K1,K1,K1,K1,K1,K1,K1,K1,K1,K1,K1,K1,K1,K1,K1,K1,K1,K1,K1,K1,K1,K1,K1,K1,K1,K1,K1,K1,K1,K1,K1,K1,K1,K1,K1,K1,K1,K1,K1,K1,K1,K1]
def lexer_scanner_text_l1 : AC := .pre mk_51 lexer_scanner_text_l1b
@[go_sem] theorem lexer_scanner_text_l1_go : LoopRule lexer_scanner_text_l1 lexer_scanner_text_l1b mk_51 := loopRule
@[go_sem] theorem lexer_scanner_text_l1_lp : LpRule lexer_scanner_text_l1 lexer_scanner_text_l1b mk_51 := lpRule
def lexer_scanner_text_k1b : AC := (.seq (.seq (.dreg [
 ⟨some 69, .cp (.t 0), none⟩,
 ⟨some 70, .nck (.t 69) none, none⟩,
 ⟨some 71, .fa (.t 70) 1 none, none⟩,
 ⟨some 72, .ld (.t 71) none false none, none⟩,
 ⟨some 73, .cp (.t 0), none⟩,
 ⟨some 74, .nck (.t 73) none, none⟩,
 ⟨some 75, .fa (.t 74) 0 none, none⟩,
 ⟨some 76, .ld (.t 75) none false none, none⟩,
 ⟨some 77, .len true (.t 76) none, none⟩,
 ⟨some 78, .bin .eql (.t 72) (.t 77), none⟩])
 (.cond (.t 78) (.reg [
 ⟨some 79, .mv (.t 3), none⟩,
 ⟨some 80, .call n_lexer_fail [((.t 79), false), ((.c (.int .i64 1)), false)] false, none⟩])
 .skip))
 (.seq (.dreg [
 ⟨some 81, .cp (.t 0), none⟩,
 ⟨some 82, .nck (.t 81) none, none⟩,
 ⟨some 83, .fa (.t 82) 0 none, none⟩,
 ⟨some 84, .ld (.t 83) none false none, none⟩,
 ⟨some 85, .cp (.t 3), none⟩,
 ⟨some 86, .bin .add (.t 85) (.c (.int .i64 1)), none⟩,
 ⟨some 87, .cp (.t 0), none⟩,
 ⟨some 88, .nck (.t 87) none, none⟩,
 ⟨some 89, .fa (.t 88) 1 none, none⟩,
 ⟨some 90, .ld (.t 89) none false none, none⟩,
 ⟨some 91, .slc none (.t 84) (some (.t 86)) (some (.t 90)) none, none⟩,
 ⟨some 4, .cp (.t 91), none⟩])
 (.seq (.reg [
 ⟨some 92, .mv (.t 0), none⟩,
 ⟨some 93, .nck (.t 92) none, none⟩,
 ⟨some 94, .fa (.t 93) 1 none, none⟩,
 ⟨some 95, .ld (.t 94) none false none, none⟩,
 ⟨some 96, .bin .add (.t 95) (.c (.int .i64 1)), none⟩,
 ⟨some 97, .nck (.t 92) none, none⟩,
 ⟨some 98, .fa (.t 97) 1 none, none⟩,
 ⟨none, .st (.t 98) (.t 96) 1 false none, none⟩])
 (.seq (.seq (.reg [
 ⟨some 99, .mv (.t 4), none⟩,
 ⟨some 100, .len true (.t 99) none, none⟩,
 ⟨some 101, .bin .gtr (.t 100) (.c (.int .i64 200)), none⟩])
 (.cond (.t 101) (.reg [
 ⟨some 102, .mv (.t 3), none⟩,
 ⟨some 103, .call n_lexer_fail [((.t 102), false), ((.c (.int .i64 5)), false)] false, none⟩])
 .skip))
 (.seq (.reg [
 ⟨some 104, .mv (.t 3), none⟩,
 ⟨some 105, .mv (.t 4), none⟩,
 ⟨some 106, .build [(.int .i64 0), (.int .i64 0), (.int .i64 0), (.str [])] [(0, 1, (.c (.int .i64 3))), (2, 1, (.t 104)), (3, 1, (.t 105))], none⟩,
 ⟨none, .st (.t 2) (.t 106) 4 false (some 2), none⟩])
 .ret)))))
def lexer_scanner_text_k1 : AC := .pre mk_50 lexer_scanner_text_k1b
def a_lexer_scanner_text : AF := ⟨107, (.seq (.reg [
 ⟨some 2, .newbox [(.int .i64 0), (.int .i64 0), (.int .i64 0), (.str [])], none⟩])
 (.seq (.reg [
 ⟨some 5, .mv (.t 0), none⟩,
 ⟨some 6, .nck (.t 5) none, none⟩,
 ⟨some 7, .fa (.t 6) 1 none, none⟩,
 ⟨some 8, .ld (.t 7) none false none, none⟩,
 ⟨some 3, .mv (.t 8), none⟩])
 (.seq (.reg [
 ⟨some 9, .mv (.t 0), none⟩,
 ⟨some 10, .nck (.t 9) none, none⟩,
 ⟨some 11, .fa (.t 10) 1 none, none⟩,
 ⟨some 12, .ld (.t 11) none false none, none⟩,
 ⟨some 13, .bin .add (.t 12) (.c (.int .i64 1)), none⟩,
 ⟨some 14, .nck (.t 9) none, none⟩,
 ⟨some 15, .fa (.t 14) 1 none, none⟩,
 ⟨none, .st (.t 15) (.t 13) 1 false none, none⟩])
 (.seq (.blk 0 (.pre mk_49 (.loop lexer_scanner_text_l1)))
 lexer_scanner_text_k1)))), [.cell 2 (some 4)]⟩

/- (*billing/lexer.scanner).symbol -/
def a_lexer_scanner_symbol : AF := ⟨97, (.seq (.reg [
 ⟨some 2, .newbox [(.int .i64 0), (.int .i64 0), (.int .i64 0), (.str [])], none⟩])
 (.seq (.reg [
 ⟨some 5, .mv (.t 0), none⟩,
 ⟨some 6, .nck (.t 5) none, none⟩,
 ⟨some 7, .fa (.t 6) 1 none, none⟩,
 ⟨some 8, .ld (.t 7) none false none, none⟩,
 ⟨some 3, .mv (.t 8), none⟩])
 (.seq (.reg [
 ⟨some 4, .mv (.c (.int .i64 1)), none⟩])
 (.seq (.seq (.reg [
 ⟨some 9, .mv (.t 0), none⟩,
 ⟨some 10, .nck (.t 9) none, none⟩,
 ⟨some 11, .fa (.t 10) 0 none, none⟩,
 ⟨some 12, .ld (.t 11) none false none, none⟩,
 ⟨some 13, .mv (.t 3), none⟩,
 ⟨some 14, .idx (.t 12) (.t 13) none 1 false, none⟩])
 (.blk 0 (.seq (.seq (.reg [
 ⟨some 18, .bin .eql (.t 14) (.c (.int .u8 59)), none⟩,
 ⟨some 17, .mv (.t 18), none⟩])
 (.cond (.t 17) .skip
 (.seq (.reg [
 ⟨some 19, .bin .eql (.t 14) (.c (.int .u8 44)), none⟩,
 ⟨some 17, .mv (.t 19), none⟩])
 (.cond (.t 17) .skip
 (.seq (.reg [
 ⟨some 20, .bin .eql (.t 14) (.c (.int .u8 43)), none⟩,
 ⟨some 17, .mv (.t 20), none⟩])
 (.cond (.t 17) .skip
 (.seq (.reg [
 ⟨some 21, .bin .eql (.t 14) (.c (.int .u8 45)), none⟩,
 ⟨some 17, .mv (.t 21), none⟩])
 (.cond (.t 17) .skip
 (.seq (.reg [
 ⟨some 22, .bin .eql (.t 14) (.c (.int .u8 58)), none⟩,
 ⟨some 17, .mv (.t 22), none⟩])
 (.cond (.t 17) .skip
 (.seq (.reg [
 ⟨some 23, .bin .eql (.t 14) (.c (.int .u8 40)), none⟩,
 ⟨some 17, .mv (.t 23), none⟩])
 (.cond (.t 17) .skip
 (.seq (.reg [
 ⟨some 24, .bin .eql (.t 14) (.c (.int .u8 41)), none⟩,
 ⟨some 17, .mv (.t 24), none⟩])
 (.cond (.t 17) .skip
 (.seq (.reg [
 ⟨some 25, .bin .eql (.t 14) (.c (.int .u8 61)), none⟩,
 ⟨some 17, .mv (.t 25), none⟩])
 (.cond (.t 17) .skip
 (.seq (.reg [
 ⟨some 26, .bin .eql (.t 14) (.c (.int .u8 42)), none⟩,
 ⟨some 17, .mv (.t 26), none⟩])
 (.cond (.t 17) .skip
 (.seq (.reg [
 ⟨some 27, .bin .eql (.t 14) (.c (.int .u8 47)), none⟩,
 ⟨some 17, .mv (.t 27), none⟩])
 (.cond (.t 17) .skip
 (.reg [
 ⟨some 28, .bin .eql (.t 14) (.c (.int .u8 37)), none⟩,
 ⟨some 17, .mv (.t 28), none⟩])))))))))))))))))))))
 (.cond (.t 17) .skip
 (.seq (.reg [
 ⟨some 30, .bin .eql (.t 14) (.c (.int .u8 60)), none⟩,
 ⟨some 29, .mv (.t 30), none⟩])
 (.cond (.t 29) (.seq (.reg [
 ⟨some 31, .mv (.t 3), none⟩,
 ⟨some 32, .bin .add (.t 31) (.c (.int .i64 1)), none⟩,
 ⟨some 33, .mv (.t 0), none⟩,
 ⟨some 34, .nck (.t 33) none, none⟩,
 ⟨some 35, .fa (.t 34) 0 none, none⟩,
 ⟨some 36, .ld (.t 35) none false none, none⟩,
 ⟨some 37, .len true (.t 36) none, none⟩,
 ⟨some 38, .bin .lss (.t 32) (.t 37), none⟩,
 ⟨some 39, .mv (.t 38), none⟩,
 ⟨some 40, .mv (.t 0), some (39, true)⟩,
 ⟨some 41, .nck (.t 40) none, some (39, true)⟩,
 ⟨some 42, .fa (.t 41) 0 none, some (39, true)⟩,
 ⟨some 43, .ld (.t 42) none false none, some (39, true)⟩,
 ⟨some 44, .mv (.t 3), some (39, true)⟩,
 ⟨some 45, .bin .add (.t 44) (.c (.int .i64 1)), some (39, true)⟩,
 ⟨some 46, .idx (.t 43) (.t 45) none 1 false, some (39, true)⟩,
 ⟨some 47, .bin .eql (.t 46) (.c (.int .u8 62)), some (39, true)⟩,
 ⟨some 48, .mv (.t 47), some (39, true)⟩,
 ⟨some 49, .mv (.t 0), some (48, false)⟩,
 ⟨some 50, .nck (.t 49) none, some (48, false)⟩,
 ⟨some 51, .fa (.t 50) 0 none, some (48, false)⟩,
 ⟨some 52, .ld (.t 51) none false none, some (48, false)⟩,
 ⟨some 53, .mv (.t 3), some (48, false)⟩,
 ⟨some 54, .bin .add (.t 53) (.c (.int .i64 1)), some (48, false)⟩,
 ⟨some 55, .idx (.t 52) (.t 54) none 1 false, some (48, false)⟩,
 ⟨some 56, .bin .eql (.t 55) (.c (.int .u8 61)), some (48, false)⟩,
 ⟨some 57, .pick (.t 48) (.c (.bool true)) (.t 56), some (39, true)⟩,
 ⟨some 58, .pick (.t 39) (.t 57) (.c (.bool false)), none⟩])
 (.cond (.t 58) (.reg [
 ⟨some 4, .mv (.c (.int .i64 2)), none⟩])
 .skip))
 (.seq (.reg [
 ⟨some 60, .bin .eql (.t 14) (.c (.int .u8 62)), none⟩,
 ⟨some 59, .mv (.t 60), none⟩])
 (.cond (.t 59) (.seq (.reg [
 ⟨some 61, .mv (.t 3), none⟩,
 ⟨some 62, .bin .add (.t 61) (.c (.int .i64 1)), none⟩,
 ⟨some 63, .mv (.t 0), none⟩,
 ⟨some 64, .nck (.t 63) none, none⟩,
 ⟨some 65, .fa (.t 64) 0 none, none⟩,
 ⟨some 66, .ld (.t 65) none false none, none⟩,
 ⟨some 67, .len true (.t 66) none, none⟩,
 ⟨some 68, .bin .lss (.t 62) (.t 67), none⟩,
 ⟨some 69, .mv (.t 68), none⟩,
 ⟨some 70, .mv (.t 0), some (69, true)⟩,
 ⟨some 71, .nck (.t 70) none, some (69, true)⟩,
 ⟨some 72, .fa (.t 71) 0 none, some (69, true)⟩,
 ⟨some 73, .ld (.t 72) none false none, some (69, true)⟩,
 ⟨some 74, .mv (.t 3), some (69, true)⟩,
 ⟨some 75, .bin .add (.t 74) (.c (.int .i64 1)), some (69, true)⟩,
 ⟨some 76, .idx (.t 73) (.t 75) none 1 false, some (69, true)⟩,
 ⟨some 77, .bin .eql (.t 76) (.c (.int .u8 61)), some (69, true)⟩,
 ⟨some 78, .pick (.t 69) (.t 77) (.c (.bool false)), none⟩])
 (.cond (.t 78) (.reg [
 ⟨some 4, .mv (.c (.int .i64 2)), none⟩])
 .skip))
 (.reg [
 ⟨some 15, .mv (.t 3), none⟩,
 ⟨some 16, .call n_lexer_fail [((.t 15), false), ((.c (.int .i64 1)), false)] false, none⟩])))))))))
 (.seq (.reg [
 ⟨some 79, .mv (.t 0), none⟩,
 ⟨some 80, .mv (.t 3), none⟩,
 ⟨some 81, .mv (.t 4), none⟩,
 ⟨some 82, .bin .add (.t 80) (.t 81), none⟩,
 ⟨some 83, .nck (.t 79) none, none⟩,
 ⟨some 84, .fa (.t 83) 1 none, none⟩,
 ⟨none, .st (.t 84) (.t 82) 1 false none, none⟩])
 (.seq (.dreg [
 ⟨some 85, .cp (.t 3), none⟩,
 ⟨some 86, .cp (.t 0), none⟩,
 ⟨some 87, .nck (.t 86) none, none⟩,
 ⟨some 88, .fa (.t 87) 0 none, none⟩,
 ⟨some 89, .ld (.t 88) none false none, none⟩,
 ⟨some 90, .cp (.t 3), none⟩,
 ⟨some 91, .cp (.t 0), none⟩,
 ⟨some 92, .nck (.t 91) none, none⟩,
 ⟨some 93, .fa (.t 92) 1 none, none⟩,
 ⟨some 94, .ld (.t 93) none false none, none⟩,
 ⟨some 95, .slc none (.t 89) (some (.t 90)) (some (.t 94)) none, none⟩,
 ⟨some 96, .build [(.int .i64 0), (.int .i64 0), (.int .i64 0), (.str [])] [(0, 1, (.c (.int .i64 4))), (2, 1, (.t 85)), (3, 1, (.t 95))], none⟩,
 ⟨none, .st (.t 2) (.t 96) 4 false (some 2), none⟩])
 .ret)))))), [.cell 2 (some 4)]⟩

/- billing/billingref23.Lower -/
def a_billingref23_Lower : AF := ⟨9, (.seq (.reg [
 ⟨some 2, .mv (.c (.bool false)), none⟩])
 (.seq (.reg [
 ⟨some 3, .mv (.t 0), none⟩,
 ⟨some 4, .bin .geq (.t 3) (.c (.int .u8 97)), none⟩,
 ⟨some 5, .mv (.t 4), none⟩,
 ⟨some 6, .mv (.t 0), some (5, true)⟩,
 ⟨some 7, .bin .leq (.t 6) (.c (.int .u8 122)), some (5, true)⟩,
 ⟨some 8, .pick (.t 5) (.t 7) (.c (.bool false)), none⟩,
 ⟨some 2, .mv (.t 8), none⟩])
 .ret)), [.tmp 2]⟩
@[go_sem] def mk_52 : List Bool := [K0,K0,K0,K0,K0,K1,K1,K0,K1]
@[go_sem] def mk_53 : List Bool := [K0,K0,K0,K0,K0,K1,K1,K0,K1,K1,K1,K1,K1,K1,K1,K1,K1,K1,K1,K1,K1]

/- billing/billingref23.word -/
def billingref23_word_l1b : AC := (.seq (.seq (.reg [
 ⟨some 9, .mv (.t 7), none⟩,
 ⟨some 10, .mv (.t 0), none⟩,
 ⟨some 11, .len true (.t 10) none, none⟩,
 ⟨some 12, .bin .lss (.t 9) (.t 11), none⟩,
 ⟨some 13, .mv (.t 12), none⟩,
 ⟨some 14, .mv (.t 0), some (13, true)⟩,
 ⟨some 15, .mv (.t 7), some (13, true)⟩,
 ⟨some 16, .idx (.t 14) (.t 15) none 1 false, some (13, true)⟩,
 ⟨some 17, .call n_billingref23_inWord [((.t 16), false)] false, some (13, true)⟩,
 ⟨some 18, .pick (.t 13) (.t 17) (.c (.bool false)), none⟩])
 (.cond (.t 18) .skip
 (.exit 0)))
 (.blk 1 (.reg [
 ⟨some 19, .mv (.t 7), none⟩,
 ⟨some 20, .bin .add (.t 19) (.c (.int .i64 1)), none⟩,
 ⟨some 7, .mv (.t 20), none⟩])))
@[go_sem] def mk_54 : List Bool := [K0,K0,K0,K0,K0,K0,K0,K0,K0,K1,K1,K1,K1,K1,K1,K1,K1,K1,K1,K1,K1]
def billingref23_word_l1 : AC := .pre mk_54 billingref23_word_l1b
@[go_sem] theorem billingref23_word_l1_go : LoopRule billingref23_word_l1 billingref23_word_l1b mk_54 := loopRule
@[go_sem] theorem billingref23_word_l1_lp : LpRule billingref23_word_l1 billingref23_word_l1b mk_54 := lpRule
def billingref23_word_k1b : AC := (.seq (.seq (.reg [
 ⟨some 21, .mv (.t 7), none⟩,
 ⟨some 22, .mv (.t 1), none⟩,
 ⟨some 23, .bin .sub (.t 21) (.t 22), none⟩,
 ⟨some 24, .bin .gtr (.t 23) (.c (.int .i64 24)), none⟩])
 (.cond (.t 24) (.seq (.reg [
 ⟨some 25, .build [(.int .i64 0), (.int .i64 0), (.int .i64 0), (.str [])] [], none⟩,
 ⟨some 26, .mv (.t 1), none⟩,
 ⟨none, .st (.t 4) (.t 25) 4 false (some 4), none⟩,
 ⟨some 5, .mv (.t 26), none⟩,
 ⟨some 6, .mv (.c (.int .i64 5)), none⟩])
 .ret)
 .skip))
 (.seq (.reg [
 ⟨some 27, .mv (.t 1), none⟩,
 ⟨some 28, .mv (.t 0), none⟩,
 ⟨some 29, .mv (.t 1), none⟩,
 ⟨some 30, .mv (.t 7), none⟩,
 ⟨some 31, .slc none (.t 28) (some (.t 29)) (some (.t 30)) none, none⟩,
 ⟨some 32, .build [(.int .i64 0), (.int .i64 0), (.int .i64 0), (.str [])] [(0, 1, (.c (.int .i64 1))), (2, 1, (.t 27)), (3, 1, (.t 31))], none⟩,
 ⟨some 33, .mv (.t 7), none⟩,
 ⟨none, .st (.t 4) (.t 32) 4 false (some 4), none⟩,
 ⟨some 5, .mv (.t 33), none⟩,
 ⟨some 6, .mv (.c (.int .i64 0)), none⟩])
 .ret))
def billingref23_word_k1 : AC := .pre mk_53 billingref23_word_k1b
def a_billingref23_word : AF := ⟨34, (.seq (.reg [
 ⟨some 4, .newbox [(.int .i64 0), (.int .i64 0), (.int .i64 0), (.str [])], none⟩,
 ⟨some 5, .mv (.c (.int .i64 0)), none⟩,
 ⟨some 6, .mv (.c (.int .i64 0)), none⟩])
 (.seq (.reg [
 ⟨some 8, .mv (.t 1), none⟩,
 ⟨some 7, .mv (.t 8), none⟩])
 (.seq (.blk 0 (.pre mk_52 (.loop billingref23_word_l1)))
 billingref23_word_k1))), [.cell 4 (some 4), .tmp 5, .tmp 6]⟩

/- billing/billingref23.Digit -/
def a_billingref23_Digit : AF := ⟨9, (.seq (.reg [
 ⟨some 2, .mv (.c (.bool false)), none⟩])
 (.seq (.reg [
 ⟨some 3, .mv (.t 0), none⟩,
 ⟨some 4, .bin .geq (.t 3) (.c (.int .u8 48)), none⟩,
 ⟨some 5, .mv (.t 4), none⟩,
 ⟨some 6, .mv (.t 0), some (5, true)⟩,
 ⟨some 7, .bin .leq (.t 6) (.c (.int .u8 57)), some (5, true)⟩,
 ⟨some 8, .pick (.t 5) (.t 7) (.c (.bool false)), none⟩,
 ⟨some 2, .mv (.t 8), none⟩])
 .ret)), [.tmp 2]⟩

/- billing/billingref23.number -/
def billingref23_number_l1b : AC := (.seq (.seq (.reg [
 ⟨some 9, .mv (.t 7), none⟩,
 ⟨some 10, .mv (.t 0), none⟩,
 ⟨some 11, .len true (.t 10) none, none⟩,
 ⟨some 12, .bin .lss (.t 9) (.t 11), none⟩,
 ⟨some 13, .mv (.t 12), none⟩,
 ⟨some 14, .mv (.t 0), some (13, true)⟩,
 ⟨some 15, .mv (.t 7), some (13, true)⟩,
 ⟨some 16, .idx (.t 14) (.t 15) none 1 false, some (13, true)⟩,
 ⟨some 17, .call n_billingref23_Digit [((.t 16), false)] false, some (13, true)⟩,
 ⟨some 18, .pick (.t 13) (.t 17) (.c (.bool false)), none⟩])
 (.cond (.t 18) .skip
 (.exit 0)))
 (.blk 1 (.reg [
 ⟨some 19, .mv (.t 7), none⟩,
 ⟨some 20, .bin .add (.t 19) (.c (.int .i64 1)), none⟩,
 ⟨some 7, .mv (.t 20), none⟩])))
def billingref23_number_l1 : AC := .pre mk_54 billingref23_number_l1b
@[go_sem] theorem billingref23_number_l1_go : LoopRule billingref23_number_l1 billingref23_number_l1b mk_54 := loopRule
@[go_sem] theorem billingref23_number_l1_lp : LpRule billingref23_number_l1 billingref23_number_l1b mk_54 := lpRule
def billingref23_number_k1b : AC := (.seq (.seq (.reg [
 ⟨some 21, .mv (.t 7), none⟩,
 ⟨some 22, .mv (.t 1), none⟩,
 ⟨some 23, .bin .sub (.t 21) (.t 22), none⟩,
 ⟨some 24, .bin .gtr (.t 23) (.c (.int .i64 16)), none⟩])
 (.cond (.t 24) (.seq (.reg [
 ⟨some 25, .build [(.int .i64 0), (.int .i64 0), (.int .i64 0), (.str [])] [], none⟩,
 ⟨some 26, .mv (.t 1), none⟩,
 ⟨none, .st (.t 4) (.t 25) 4 false (some 4), none⟩,
 ⟨some 5, .mv (.t 26), none⟩,
 ⟨some 6, .mv (.c (.int .i64 5)), none⟩])
 .ret)
 .skip))
 (.seq (.seq (.reg [
 ⟨some 27, .mv (.t 7), none⟩,
 ⟨some 28, .mv (.t 0), none⟩,
 ⟨some 29, .len true (.t 28) none, none⟩,
 ⟨some 30, .bin .lss (.t 27) (.t 29), none⟩,
 ⟨some 31, .mv (.t 30), none⟩,
 ⟨some 32, .mv (.t 0), some (31, true)⟩,
 ⟨some 33, .mv (.t 7), some (31, true)⟩,
 ⟨some 34, .idx (.t 32) (.t 33) none 1 false, some (31, true)⟩,
 ⟨some 35, .call n_billingref23_Lower [((.t 34), false)] false, some (31, true)⟩,
 ⟨some 36, .pick (.t 31) (.t 35) (.c (.bool false)), none⟩])
 (.cond (.t 36) (.seq (.reg [
 ⟨some 37, .build [(.int .i64 0), (.int .i64 0), (.int .i64 0), (.str [])] [], none⟩,
 ⟨some 38, .mv (.t 1), none⟩,
 ⟨none, .st (.t 4) (.t 37) 4 false (some 4), none⟩,
 ⟨some 5, .mv (.t 38), none⟩,
 ⟨some 6, .mv (.c (.int .i64 1)), none⟩])
 .ret)
 .skip))
 (.seq (.dreg [
 ⟨some 39, .cp (.t 0), none⟩,
 ⟨some 40, .cp (.t 1), none⟩,
 ⟨some 41, .cp (.t 7), none⟩,
 ⟨some 42, .slc none (.t 39) (some (.t 40)) (some (.t 41)) none, none⟩,
 ⟨some 43, .call n_billingref23_Value [((.t 42), false)] false, none⟩,
 ⟨some 44, .cp (.t 1), none⟩,
 ⟨some 45, .cp (.t 0), none⟩,
 ⟨some 46, .cp (.t 1), none⟩,
 ⟨some 47, .cp (.t 7), none⟩,
 ⟨some 48, .slc none (.t 45) (some (.t 46)) (some (.t 47)) none, none⟩,
 ⟨some 49, .build [(.int .i64 0), (.int .i64 0), (.int .i64 0), (.str [])] [(0, 1, (.c (.int .i64 2))), (1, 1, (.t 43)), (2, 1, (.t 44)), (3, 1, (.t 48))], none⟩,
 ⟨some 50, .cp (.t 7), none⟩,
 ⟨none, .st (.t 4) (.t 49) 4 false (some 4), none⟩,
 ⟨some 5, .cp (.t 50), none⟩,
 ⟨some 6, .mv (.c (.int .i64 0)), none⟩])
 .ret)))
def billingref23_number_k1 : AC := .pre mk_53 billingref23_number_k1b
def a_billingref23_number : AF := ⟨51, (.seq (.reg [
 ⟨some 4, .newbox [(.int .i64 0), (.int .i64 0), (.int .i64 0), (.str [])], none⟩,
 ⟨some 5, .mv (.c (.int .i64 0)), none⟩,
 ⟨some 6, .mv (.c (.int .i64 0)), none⟩])
 (.seq (.reg [
 ⟨some 8, .mv (.t 1), none⟩,
 ⟨some 7, .mv (.t 8), none⟩])
 (.seq (.blk 0 (.pre mk_52 (.loop billingref23_number_l1)))
 billingref23_number_k1))), [.cell 4 (some 4), .tmp 5, .tmp 6]⟩
@[go_sem] def mk_55 : List Bool := [K0,K0,K0,K0,K0,K1,K1,K0,K1,K1]
@[go_sem] def mk_56 : List Bool := [K0,K0,K0,K0,K0,K1,K1,K0,K1,K1,K1,K1,K1,K1,K1,K1,K1,K1,K1,K1,K1,K1]

/- billing/billingref23.text -/
def billingref23_text_l1b : AC := (.seq (.seq (.reg [
 ⟨some 10, .mv (.t 7), none⟩,
 ⟨some 11, .mv (.t 0), none⟩,
 ⟨some 12, .len true (.t 11) none, none⟩,
 ⟨some 13, .bin .lss (.t 10) (.t 12), none⟩,
 ⟨some 14, .mv (.t 13), none⟩,
 ⟨some 15, .mv (.t 0), some (14, true)⟩,
 ⟨some 16, .mv (.t 7), some (14, true)⟩,
 ⟨some 17, .idx (.t 15) (.t 16) none 1 false, some (14, true)⟩,
 ⟨some 18, .call n_billingref23_inText [((.t 17), false)] false, some (14, true)⟩,
 ⟨some 19, .pick (.t 14) (.t 18) (.c (.bool false)), none⟩])
 (.cond (.t 19) .skip
 (.exit 0)))
 (.blk 1 (.reg [
 ⟨some 20, .mv (.t 7), none⟩,
 ⟨some 21, .bin .add (.t 20) (.c (.int .i64 1)), none⟩,
 ⟨some 7, .mv (.t 21), none⟩])))
@[go_sem] def mk_57 : List Bool := [K0,K0,K0,K0,K0,K0,K0,K0,K0,K0,K1,K1,K1,K1,K1,K1,K1,K1,K1,K1,K1,K1]
def billingref23_text_l1 : AC := .pre mk_57 billingref23_text_l1b
@[go_sem] theorem billingref23_text_l1_go : LoopRule billingref23_text_l1 billingref23_text_l1b mk_57 := loopRule
@[go_sem] theorem billingref23_text_l1_lp : LpRule billingref23_text_l1 billingref23_text_l1b mk_57 := lpRule
def billingref23_text_k1b : AC := (.seq (.seq (.reg [
 ⟨some 22, .mv (.t 7), none⟩,
 ⟨some 23, .mv (.t 0), none⟩,
 ⟨some 24, .len true (.t 23) none, none⟩,
 ⟨some 25, .bin .eql (.t 22) (.t 24), none⟩,
 ⟨some 26, .mv (.t 25), none⟩,
 ⟨some 27, .mv (.t 0), some (26, false)⟩,
 ⟨some 28, .mv (.t 7), some (26, false)⟩,
 ⟨some 29, .idx (.t 27) (.t 28) none 1 false, some (26, false)⟩,
 ⟨some 30, .bin .neq (.t 29) (.c (.int .u8 34)), some (26, false)⟩,
 ⟨some 31, .pick (.t 26) (.c (.bool true)) (.t 30), none⟩])
 (.cond (.t 31) (.seq (.reg [
 ⟨some 32, .build [(.int .i64 0), (.int .i64 0), (.int .i64 0), (.str [])] [], none⟩,
 ⟨some 33, .mv (.t 1), none⟩,
 ⟨none, .st (.t 4) (.t 32) 4 false (some 4), none⟩,
 ⟨some 5, .mv (.t 33), none⟩,
 ⟨some 6, .mv (.c (.int .i64 1)), none⟩])
 .ret)
 .skip))
 (.seq (.seq (.reg [
 ⟨some 34, .mv (.t 7), none⟩,
 ⟨some 35, .mv (.t 1), none⟩,
 ⟨some 36, .bin .sub (.t 34) (.t 35), none⟩,
 ⟨some 37, .bin .sub (.t 36) (.c (.int .i64 1)), none⟩,
 ⟨some 38, .bin .gtr (.t 37) (.c (.int .i64 200)), none⟩])
 (.cond (.t 38) (.seq (.reg [
 ⟨some 39, .build [(.int .i64 0), (.int .i64 0), (.int .i64 0), (.str [])] [], none⟩,
 ⟨some 40, .mv (.t 1), none⟩,
 ⟨none, .st (.t 4) (.t 39) 4 false (some 4), none⟩,
 ⟨some 5, .mv (.t 40), none⟩,
 ⟨some 6, .mv (.c (.int .i64 5)), none⟩])
 .ret)
 .skip))
 (.seq (.reg [
 ⟨some 41, .mv (.t 1), none⟩,
 ⟨some 42, .mv (.t 0), none⟩,
 ⟨some 43, .mv (.t 1), none⟩,
 ⟨some 44, .bin .add (.t 43) (.c (.int .i64 1)), none⟩,
 ⟨some 45, .mv (.t 7), none⟩,
 ⟨some 46, .slc none (.t 42) (some (.t 44)) (some (.t 45)) none, none⟩,
 ⟨some 47, .build [(.int .i64 0), (.int .i64 0), (.int .i64 0), (.str [])] [(0, 1, (.c (.int .i64 3))), (2, 1, (.t 41)), (3, 1, (.t 46))], none⟩,
 ⟨some 48, .mv (.t 7), none⟩,
 ⟨some 49, .bin .add (.t 48) (.c (.int .i64 1)), none⟩,
 ⟨none, .st (.t 4) (.t 47) 4 false (some 4), none⟩,
 ⟨some 5, .mv (.t 49), none⟩,
 ⟨some 6, .mv (.c (.int .i64 0)), none⟩])
 .ret)))
def billingref23_text_k1 : AC := .pre mk_56 billingref23_text_k1b
def a_billingref23_text : AF := ⟨50, (.seq (.reg [
 ⟨some 4, .newbox [(.int .i64 0), (.int .i64 0), (.int .i64 0), (.str [])], none⟩,
 ⟨some 5, .mv (.c (.int .i64 0)), none⟩,
 ⟨some 6, .mv (.c (.int .i64 0)), none⟩])
 (.seq (.reg [
 ⟨some 8, .mv (.t 1), none⟩,
 ⟨some 9, .bin .add (.t 8) (.c (.int .i64 1)), none⟩,
 ⟨some 7, .mv (.t 9), none⟩])
 (.seq (.blk 0 (.pre mk_55 (.loop billingref23_text_l1)))
 billingref23_text_k1))), [.cell 4 (some 4), .tmp 5, .tmp 6]⟩
@[go_sem] def mk_58 : List Bool := [K0,K0,K0,K0,K0,K0,K0,K0,K0,K0,K1]
@[go_sem] def mk_59 : List Bool := [K1,K0,K0,K0,K0,K1,K1,K1,K1,K1,K1,K1,K1,K1,K1,K1,K1,K1,K1,K1,K1,K1,K1,K1,K1,K1,K1,K1,K1,K1,K1,K1,K1,K1,K1,K1,K1,K1,K1,K1,K1,K1,K1,K1,K1,K1,K1,K1,K1,K1]

/- billing/billingref23.symbol -/
def billingref23_symbol_l1b : AC := (.seq (.seq (.reg [
 ⟨some 11, .mv (.t 8), none⟩,
 ⟨some 12, .al 7, none⟩,
 ⟨some 13, .len false (.t 12) (some 7), none⟩,
 ⟨some 14, .bin .lss (.t 11) (.t 13), none⟩])
 (.cond (.t 14) .skip
 (.exit 0)))
 (.seq (.blk 1 (.seq (.reg [
 ⟨some 17, .al 7, none⟩,
 ⟨some 18, .mv (.t 8), none⟩,
 ⟨some 19, .ia (.t 17) (.t 18) 1 none (some 7), none⟩,
 ⟨some 20, .ld (.t 19) none false none, none⟩,
 ⟨some 21, .len true (.t 20) none, none⟩,
 ⟨some 9, .mv (.t 21), none⟩])
 (.seq (.dreg [
 ⟨some 22, .cp (.t 1), none⟩,
 ⟨some 23, .cp (.t 9), none⟩,
 ⟨some 24, .bin .add (.t 22) (.t 23), none⟩,
 ⟨some 25, .cp (.t 0), none⟩,
 ⟨some 26, .len true (.t 25) none, none⟩,
 ⟨some 27, .bin .leq (.t 24) (.t 26), none⟩,
 ⟨some 28, .cp (.t 27), none⟩,
 ⟨some 29, .cp (.t 0), some (28, true)⟩,
 ⟨some 30, .cp (.t 1), some (28, true)⟩,
 ⟨some 31, .cp (.t 1), some (28, true)⟩,
 ⟨some 32, .cp (.t 9), some (28, true)⟩,
 ⟨some 33, .bin .add (.t 31) (.t 32), some (28, true)⟩,
 ⟨some 34, .slc none (.t 29) (some (.t 30)) (some (.t 33)) none, some (28, true)⟩,
 ⟨some 35, .al 7, some (28, true)⟩,
 ⟨some 36, .cp (.t 8), some (28, true)⟩,
 ⟨some 37, .ia (.t 35) (.t 36) 1 none (some 7), some (28, true)⟩,
 ⟨some 38, .ld (.t 37) none false none, some (28, true)⟩,
 ⟨some 39, .bin .eql (.t 34) (.t 38), some (28, true)⟩,
 ⟨some 40, .pick (.t 28) (.t 39) (.c (.bool false)), none⟩])
 (.cond (.t 40) (.seq (.reg [
 ⟨some 41, .mv (.t 1), none⟩,
 ⟨some 42, .al 7, none⟩,
 ⟨some 43, .mv (.t 8), none⟩,
 ⟨some 44, .ia (.t 42) (.t 43) 1 none (some 7), none⟩,
 ⟨some 45, .ld (.t 44) none false none, none⟩,
 ⟨some 46, .build [(.int .i64 0), (.int .i64 0), (.int .i64 0), (.str [])] [(0, 1, (.c (.int .i64 4))), (2, 1, (.t 41)), (3, 1, (.t 45))], none⟩,
 ⟨some 47, .mv (.t 1), none⟩,
 ⟨some 48, .mv (.t 9), none⟩,
 ⟨some 49, .bin .add (.t 47) (.t 48), none⟩,
 ⟨none, .st (.t 4) (.t 46) 4 false (some 4), none⟩,
 ⟨some 5, .mv (.t 49), none⟩,
 ⟨some 6, .mv (.c (.int .i64 0)), none⟩])
 .ret)
 .skip))))
 (.reg [
 ⟨some 15, .mv (.t 8), none⟩,
 ⟨some 16, .bin .add (.t 15) (.c (.int .i64 1)), none⟩,
 ⟨some 8, .mv (.t 16), none⟩])))
@[go_sem] def mk_60 : List Bool := [K0,K0,K0,K0,K0,K1,K1,K0,K0,K1,K0,K1,K1,K1,K1,K1,K1,K1,K1,K1,K1,K1,K1,K1,K1,K1,K1,K1,K1,K1,K1,K1,K1,K1,K1,K1,K1,K1,K1,K1,K1,K1,K1,K1,K1,K1,K1,K1,K1,K1]
def billingref23_symbol_l1 : AC := .pre mk_60 billingref23_symbol_l1b
@[go_sem] theorem billingref23_symbol_l1_go : LoopRule billingref23_symbol_l1 billingref23_symbol_l1b mk_60 := loopRule
@[go_sem] theorem billingref23_symbol_l1_lp : LpRule billingref23_symbol_l1 billingref23_symbol_l1b mk_60 := lpRule
def billingref23_symbol_k1b : AC := (.seq (.reg [
 ⟨some 50, .build [(.int .i64 0), (.int .i64 0), (.int .i64 0), (.str [])] [], none⟩,
 ⟨some 51, .mv (.t 1), none⟩,
 ⟨none, .st (.t 4) (.t 50) 4 false (some 4), none⟩,
 ⟨some 5, .mv (.t 51), none⟩,
 ⟨some 6, .mv (.c (.int .i64 1)), none⟩])
 .ret)
def billingref23_symbol_k1 : AC := .pre mk_59 billingref23_symbol_k1b
def a_billingref23_symbol : AF := ⟨52, (.seq (.reg [
 ⟨some 4, .newbox [(.int .i64 0), (.int .i64 0), (.int .i64 0), (.str [])], none⟩,
 ⟨some 5, .mv (.c (.int .i64 0)), none⟩,
 ⟨some 6, .mv (.c (.int .i64 0)), none⟩])
 (.seq (.reg [
 ⟨some 10, .call n_billingref23_Symbols [] false, none⟩,
 ⟨none, .cm 10, none⟩,
 ⟨some 7, .mv (.t 10), none⟩,
 ⟨none, .cm 7, none⟩])
 (.seq (.seq (.reg [
 ⟨some 8, .mv (.c (.int .i64 0)), none⟩])
 (.blk 0 (.pre mk_58 (.loop billingref23_symbol_l1))))
 billingref23_symbol_k1))), [.cell 4 (some 4), .tmp 5, .tmp 6]⟩

/- (*billing/billingref24.Reader).both -/
def billingref24_Reader_both_l1b : AC := (.seq (.seq (.reg [
 ⟨some 6, .mv (.t 0), none⟩,
 ⟨some 7, .call n_billingref24_Reader_accept [((.t 6), false), ((.c (.str [97, 110, 100])), false)] true, none⟩])
 (.cond (.t 7) .skip
 (.exit 0)))
 (.blk 1 (.dreg [
 ⟨some 8, .ld (.t 3) (some 4) false (some 3), none⟩,
 ⟨some 9, .cp (.t 0), none⟩,
 ⟨some 10, .call n_billingref24_Reader_negated [((.t 9), false)] true, none⟩,
 ⟨some 11, .call n_billingref24_two [((.c (.int .i64 5)), false), ((.t 8), false), ((.t 10), false)] false, none⟩,
 ⟨none, .st (.t 3) (.t 11) 4 false (some 3), none⟩])))
def billingref24_Reader_both_l1 : AC := .pre mk_31 billingref24_Reader_both_l1b
@[go_sem] theorem billingref24_Reader_both_l1_go : LoopRule billingref24_Reader_both_l1 billingref24_Reader_both_l1b mk_31 := loopRule
@[go_sem] theorem billingref24_Reader_both_l1_lp : LpRule billingref24_Reader_both_l1 billingref24_Reader_both_l1b mk_31 := lpRule
def billingref24_Reader_both_k1b : AC := (.seq (.reg [
 ⟨some 12, .ld (.t 3) (some 4) false (some 3), none⟩,
 ⟨none, .st (.t 2) (.t 12) 4 false (some 2), none⟩])
 .ret)
def billingref24_Reader_both_k1 : AC := .pre mk_30 billingref24_Reader_both_k1b
def a_billingref24_Reader_both : AF := ⟨13, (.seq (.reg [
 ⟨some 2, .newbox [(.int .i64 0), (.int .i64 0), (.str []), (.sl false 4 [])], none⟩])
 (.seq (.reg [
 ⟨some 4, .mv (.t 0), none⟩,
 ⟨some 5, .call n_billingref24_Reader_negated [((.t 4), false)] true, none⟩,
 ⟨some 3, .newbox [(.int .i64 0), (.int .i64 0), (.str []), (.sl false 4 [])], none⟩,
 ⟨none, .st (.t 3) (.t 5) 4 false (some 3), none⟩])
 (.seq (.blk 0 (.pre mk_29 (.loop billingref24_Reader_both_l1)))
 billingref24_Reader_both_k1))), [.cell 2 (some 4)]⟩

/- (*billing/billingref24.Reader).accept -/
def a_billingref24_Reader_accept : AF := ⟨10, (.seq (.reg [
 ⟨some 4, .mv (.c (.bool false)), none⟩])
 (.seq (.seq (.reg [
 ⟨some 5, .mv (.t 0), none⟩,
 ⟨some 6, .mv (.t 1), none⟩,
 ⟨some 7, .call n_billingref24_Reader_is [((.t 5), false), ((.t 6), false)] true, none⟩])
 (.cond (.t 7) (.seq (.reg [
 ⟨some 8, .mv (.t 0), none⟩,
 ⟨some 9, .call n_billingref24_Reader_next [((.t 8), false)] true, none⟩])
 (.seq (.reg [
 ⟨some 4, .mv (.c (.bool true)), none⟩])
 .ret))
 .skip))
 (.seq (.reg [
 ⟨some 4, .mv (.c (.bool false)), none⟩])
 .ret))), [.tmp 4]⟩

/- billing/billingref24.two -/
def a_billingref24_two : AF := ⟨12, (.seq (.reg [
 ⟨some 4, .boxr (.t 1), none⟩,
 ⟨some 5, .boxr (.t 2), none⟩,
 ⟨some 6, .newbox [(.int .i64 0), (.int .i64 0), (.str []), (.sl false 4 [])], none⟩])
 (.seq (.reg [
 ⟨some 7, .mv (.t 0), none⟩,
 ⟨some 8, .ld (.t 4) (some 4) false none, none⟩,
 ⟨some 9, .ld (.t 5) (some 4) false none, none⟩,
 ⟨some 10, .bsl 4 2 (.agg [(.int .i64 0), (.int .i64 0), (.str []), (.sl false 4 [])]) [(0, (.t 8)), (1, (.t 9))], none⟩,
 ⟨none, .cm 10, none⟩,
 ⟨some 11, .build [(.int .i64 0), (.int .i64 0), (.str []), (.sl false 4 [])] [(0, 1, (.t 7)), (3, 1, (.t 10))], none⟩,
 ⟨none, .st (.t 6) (.t 11) 4 false (some 6), none⟩])
 .ret)), [.cell 6 (some 4)]⟩

/- (*billing/billingref24.Reader).fail -/
def a_billingref24_Reader_fail : AF := ⟨13, (.seq (.reg [
 ⟨some 4, .mv (.t 0), none⟩,
 ⟨some 5, .nck (.t 4) none, none⟩,
 ⟨some 6, .fa (.t 5) 2 none, none⟩,
 ⟨some 7, .ld (.t 6) none false none, none⟩,
 ⟨some 8, .bin .eql (.t 7) (.c (.int .i64 0)), none⟩])
 (.cond (.t 8) (.reg [
 ⟨some 9, .mv (.t 0), none⟩,
 ⟨some 10, .mv (.t 1), none⟩,
 ⟨some 11, .nck (.t 9) none, none⟩,
 ⟨some 12, .fa (.t 11) 2 none, none⟩,
 ⟨none, .st (.t 12) (.t 10) 1 false none, none⟩])
 .skip)), []⟩

/- billing/calendar.before -/
def a_calendar_before : AF := ⟨26, (.seq (.reg [
 ⟨some 2, .mv (.c (.int .i64 0)), none⟩])
 (.seq (.reg [
 ⟨some 5, .mv (.t 0), none⟩,
 ⟨some 6, .bin .sub (.t 5) (.c (.int .i64 2000)), none⟩,
 ⟨some 3, .mv (.t 6), none⟩])
 (.seq (.reg [
 ⟨some 7, .mv (.t 3), none⟩,
 ⟨some 8, .bin .mul (.c (.int .i64 365)) (.t 7), none⟩,
 ⟨some 4, .mv (.t 8), none⟩])
 (.seq (.seq (.reg [
 ⟨some 9, .mv (.t 3), none⟩,
 ⟨some 10, .bin .gtr (.t 9) (.c (.int .i64 0)), none⟩])
 (.cond (.t 10) (.reg [
 ⟨some 11, .mv (.t 4), none⟩,
 ⟨some 12, .mv (.t 3), none⟩,
 ⟨some 13, .bin .sub (.t 12) (.c (.int .i64 1)), none⟩,
 ⟨some 14, .bin .quo (.t 13) (.c (.int .i64 4)), none⟩,
 ⟨some 15, .mv (.t 3), none⟩,
 ⟨some 16, .bin .sub (.t 15) (.c (.int .i64 1)), none⟩,
 ⟨some 17, .bin .quo (.t 16) (.c (.int .i64 100)), none⟩,
 ⟨some 18, .bin .sub (.t 14) (.t 17), none⟩,
 ⟨some 19, .mv (.t 3), none⟩,
 ⟨some 20, .bin .sub (.t 19) (.c (.int .i64 1)), none⟩,
 ⟨some 21, .bin .quo (.t 20) (.c (.int .i64 400)), none⟩,
 ⟨some 22, .bin .add (.t 18) (.t 21), none⟩,
 ⟨some 23, .bin .add (.t 22) (.c (.int .i64 1)), none⟩,
 ⟨some 24, .bin .add (.t 11) (.t 23), none⟩,
 ⟨some 4, .mv (.t 24), none⟩])
 .skip))
 (.seq (.reg [
 ⟨some 25, .mv (.t 4), none⟩,
 ⟨some 2, .mv (.t 25), none⟩])
 .ret))))), [.tmp 2]⟩

/- billing/calendar.days -/
def a_calendar_days : AF := ⟨17, (.seq (.reg [
 ⟨some 4, .mv (.c (.int .i64 0)), none⟩])
 (.seq (.reg [
 ⟨some 6, .build [(.int .i64 0), (.int .i64 0), (.int .i64 0), (.int .i64 0), (.int .i64 0), (.int .i64 0), (.int .i64 0), (.int .i64 0), (.int .i64 0), (.int .i64 0), (.int .i64 0), (.int .i64 0)] [(0, 1, (.c (.int .i64 31))), (1, 1, (.c (.int .i64 28))), (2, 1, (.c (.int .i64 31))), (3, 1, (.c (.int .i64 30))), (4, 1, (.c (.int .i64 31))), (5, 1, (.c (.int .i64 30))), (6, 1, (.c (.int .i64 31))), (7, 1, (.c (.int .i64 31))), (8, 1, (.c (.int .i64 30))), (9, 1, (.c (.int .i64 31))), (10, 1, (.c (.int .i64 30))), (11, 1, (.c (.int .i64 31)))], none⟩,
 ⟨some 5, .newbox [(.int .i64 0), (.int .i64 0), (.int .i64 0), (.int .i64 0), (.int .i64 0), (.int .i64 0), (.int .i64 0), (.int .i64 0), (.int .i64 0), (.int .i64 0), (.int .i64 0), (.int .i64 0)], none⟩,
 ⟨none, .st (.t 5) (.t 6) 12 false (some 5), none⟩])
 (.seq (.seq (.reg [
 ⟨some 7, .mv (.t 1), none⟩,
 ⟨some 8, .bin .eql (.t 7) (.c (.int .i64 2)), none⟩,
 ⟨some 9, .mv (.t 8), none⟩,
 ⟨some 10, .mv (.t 0), some (9, true)⟩,
 ⟨some 11, .call n_calendar_leap [((.t 10), false)] false, some (9, true)⟩,
 ⟨some 12, .pick (.t 9) (.t 11) (.c (.bool false)), none⟩])
 (.cond (.t 12) (.seq (.reg [
 ⟨some 4, .mv (.c (.int .i64 29)), none⟩])
 .ret)
 .skip))
 (.seq (.reg [
 ⟨some 13, .mv (.t 1), none⟩,
 ⟨some 14, .bin .sub (.t 13) (.c (.int .i64 1)), none⟩,
 ⟨some 15, .ia (.t 5) (.t 14) 1 (some 12) (some 5), none⟩,
 ⟨some 16, .ld (.t 15) none false (some 5), none⟩,
 ⟨some 4, .mv (.t 16), none⟩])
 .ret)))), [.tmp 4]⟩

/- (*billing/parser.reader).skip -/
def a_parser_reader_skip : AF := ⟨14, (.seq (.reg [
 ⟨some 2, .newbox [(.int .i64 0), (.int .i64 0), (.int .i64 0), (.str [])], none⟩])
 (.seq (.reg [
 ⟨some 4, .mv (.t 0), none⟩,
 ⟨some 5, .call n_parser_reader_peek [((.t 4), false)] true, none⟩,
 ⟨some 3, .newbox [(.int .i64 0), (.int .i64 0), (.int .i64 0), (.str [])], none⟩,
 ⟨none, .st (.t 3) (.t 5) 4 false (some 3), none⟩])
 (.seq (.reg [
 ⟨some 6, .mv (.t 0), none⟩,
 ⟨some 7, .nck (.t 6) none, none⟩,
 ⟨some 8, .fa (.t 7) 1 none, none⟩,
 ⟨some 9, .ld (.t 8) none false none, none⟩,
 ⟨some 10, .bin .add (.t 9) (.c (.int .i64 1)), none⟩,
 ⟨some 11, .nck (.t 6) none, none⟩,
 ⟨some 12, .fa (.t 11) 1 none, none⟩,
 ⟨none, .st (.t 12) (.t 10) 1 false none, none⟩])
 (.seq (.reg [
 ⟨some 13, .ld (.t 3) (some 4) false (some 3), none⟩,
 ⟨none, .st (.t 2) (.t 13) 4 false (some 2), none⟩])
 .ret)))), [.cell 2 (some 4)]⟩
@[go_sem] def mk_61 : List Bool := [K1,K0,K1,K1,K0,K0,K1,K1,K1,K1,K1,K1,K1,K1,K1,K1,K1,K1,K1,K1,K1,K1,K1,K1,K1,K1]
@[go_sem] def mk_62 : List Bool := [K1,K1,K1,K1,K0,K1,K1,K1,K1,K1,K1,K1,K1,K1,K1,K1,K1,K1,K1,K1,K1,K1,K1,K1,K1,K1,K1,K1,K1,K1,K1,K1,K1,K1,K1,K1,K1,K1]

/- billing/calendar.Day -/
def calendar_Day_l1b : AC := (.seq (.seq (.reg [
 ⟨some 26, .mv (.t 5), none⟩,
 ⟨some 27, .fa (.t 1) 1 none, none⟩,
 ⟨some 28, .ld (.t 27) none false none, none⟩,
 ⟨some 29, .bin .lss (.t 26) (.t 28), none⟩])
 (.cond (.t 29) .skip
 (.exit 0)))
 (.seq (.blk 1 (.reg [
 ⟨some 32, .mv (.t 4), none⟩,
 ⟨some 33, .fa (.t 1) 0 none, none⟩,
 ⟨some 34, .ld (.t 33) none false none, none⟩,
 ⟨some 35, .mv (.t 5), none⟩,
 ⟨some 36, .call n_calendar_days [((.t 34), false), ((.t 35), false)] false, none⟩,
 ⟨some 37, .bin .add (.t 32) (.t 36), none⟩,
 ⟨some 4, .mv (.t 37), none⟩]))
 (.reg [
 ⟨some 30, .mv (.t 5), none⟩,
 ⟨some 31, .bin .add (.t 30) (.c (.int .i64 1)), none⟩,
 ⟨some 5, .mv (.t 31), none⟩])))
@[go_sem] def mk_63 : List Bool := [K0,K0,K0,K0,K0,K0,K0,K0,K0,K0,K0,K0,K0,K0,K0,K0,K0,K0,K0,K0,K0,K0,K0,K0,K0,K0,K1,K1,K1,K1,K1,K1,K1,K1,K1,K1,K1,K1]
def calendar_Day_l1 : AC := .pre mk_63 calendar_Day_l1b
@[go_sem] theorem calendar_Day_l1_go : LoopRule calendar_Day_l1 calendar_Day_l1b mk_63 := loopRule
@[go_sem] theorem calendar_Day_l1_lp : LpRule calendar_Day_l1 calendar_Day_l1b mk_63 := lpRule
def calendar_Day_k1b : AC := (.seq (.reg [
 ⟨some 38, .mv (.t 4), none⟩,
 ⟨some 2, .mv (.t 38), none⟩,
 ⟨some 3, .mv (.c (.int .i64 0)), none⟩])
 .ret)
def calendar_Day_k1 : AC := .pre mk_62 calendar_Day_k1b
def a_calendar_Day : AF := ⟨39, (.seq (.reg [
 ⟨some 1, .boxr (.t 0), none⟩,
 ⟨some 2, .mv (.c (.int .i64 0)), none⟩,
 ⟨some 3, .mv (.c (.int .i64 0)), none⟩])
 (.seq (.seq (.dreg [
 ⟨some 6, .fa (.t 1) 2 none, none⟩,
 ⟨some 7, .ld (.t 6) none false none, none⟩,
 ⟨some 8, .bin .lss (.t 7) (.c (.int .i64 1)), none⟩,
 ⟨some 9, .cp (.t 8), none⟩,
 ⟨some 10, .fa (.t 1) 2 none, some (9, false)⟩,
 ⟨some 11, .ld (.t 10) none false none, some (9, false)⟩,
 ⟨some 12, .fa (.t 1) 0 none, some (9, false)⟩,
 ⟨some 13, .ld (.t 12) none false none, some (9, false)⟩,
 ⟨some 14, .fa (.t 1) 1 none, some (9, false)⟩,
 ⟨some 15, .ld (.t 14) none false none, some (9, false)⟩,
 ⟨some 16, .call n_calendar_Length [((.t 13), false), ((.t 15), false)] false, some (9, false)⟩,
 ⟨some 17, .bin .gtr (.t 11) (.t 16), some (9, false)⟩,
 ⟨some 18, .pick (.t 9) (.c (.bool true)) (.t 17), none⟩])
 (.cond (.t 18) (.seq (.reg [
 ⟨some 2, .mv (.c (.int .i64 0)), none⟩,
 ⟨some 3, .mv (.c (.int .i64 6)), none⟩])
 .ret)
 .skip))
 (.seq (.dreg [
 ⟨some 19, .fa (.t 1) 0 none, none⟩,
 ⟨some 20, .ld (.t 19) none false none, none⟩,
 ⟨some 21, .call n_calendar_before [((.t 20), false)] false, none⟩,
 ⟨some 22, .fa (.t 1) 2 none, none⟩,
 ⟨some 23, .ld (.t 22) none false none, none⟩,
 ⟨some 24, .bin .add (.t 21) (.t 23), none⟩,
 ⟨some 25, .bin .sub (.t 24) (.c (.int .i64 1)), none⟩,
 ⟨some 4, .cp (.t 25), none⟩])
 (.seq (.seq (.reg [
 ⟨some 5, .mv (.c (.int .i64 1)), none⟩])
 (.blk 0 (.pre mk_61 (.loop calendar_Day_l1))))
 calendar_Day_k1)))), [.tmp 2, .tmp 3]⟩

/- (*billing/parser.reader).takeSymbol -/
def a_parser_reader_takeSymbol : AF := ⟨15, (.seq (.reg [
 ⟨some 4, .mv (.c (.bool false)), none⟩])
 (.seq (.seq (.reg [
 ⟨some 5, .mv (.t 0), none⟩,
 ⟨some 6, .mv (.t 1), none⟩,
 ⟨some 7, .call n_parser_reader_symbol [((.t 5), false), ((.t 6), false)] true, none⟩])
 (.cond (.t 7) (.seq (.reg [
 ⟨some 8, .mv (.t 0), none⟩,
 ⟨some 9, .nck (.t 8) none, none⟩,
 ⟨some 10, .fa (.t 9) 1 none, none⟩,
 ⟨some 11, .ld (.t 10) none false none, none⟩,
 ⟨some 12, .bin .add (.t 11) (.c (.int .i64 1)), none⟩,
 ⟨some 13, .nck (.t 8) none, none⟩,
 ⟨some 14, .fa (.t 13) 1 none, none⟩,
 ⟨none, .st (.t 14) (.t 12) 1 false none, none⟩])
 (.seq (.reg [
 ⟨some 4, .mv (.c (.bool true)), none⟩])
 .ret))
 .skip))
 (.seq (.reg [
 ⟨some 4, .mv (.c (.bool false)), none⟩])
 .ret))), [.tmp 4]⟩

/- (*billing/parser.reader).word -/
def a_parser_reader_word : AF := ⟨16, (.seq (.reg [
 ⟨some 4, .mv (.c (.bool false)), none⟩])
 (.seq (.reg [
 ⟨some 5, .mv (.t 0), none⟩,
 ⟨some 6, .call n_parser_reader_peek [((.t 5), false)] true, none⟩,
 ⟨some 7, .fld (.t 6) 0 1 false, none⟩,
 ⟨some 8, .bin .eql (.t 7) (.c (.int .i64 1)), none⟩,
 ⟨some 9, .mv (.t 8), none⟩,
 ⟨some 10, .mv (.t 0), some (9, true)⟩,
 ⟨some 11, .call n_parser_reader_peek [((.t 10), false)] true, some (9, true)⟩,
 ⟨some 12, .fld (.t 11) 3 1 false, some (9, true)⟩,
 ⟨some 13, .mv (.t 1), some (9, true)⟩,
 ⟨some 14, .bin .eql (.t 12) (.t 13), some (9, true)⟩,
 ⟨some 15, .pick (.t 9) (.t 14) (.c (.bool false)), none⟩,
 ⟨some 4, .mv (.t 15), none⟩])
 .ret)), [.tmp 4]⟩

/- (*billing/parser.reader).digits -/
def a_parser_reader_digits : AF := ⟨13, (.seq (.reg [
 ⟨some 2, .mv (.c (.str [])), none⟩])
 (.seq (.seq (.reg [
 ⟨some 3, .mv (.t 0), none⟩,
 ⟨some 4, .call n_parser_reader_peek [((.t 3), false)] true, none⟩,
 ⟨some 5, .fld (.t 4) 0 1 false, none⟩,
 ⟨some 6, .bin .neq (.t 5) (.c (.int .i64 2)), none⟩])
 (.cond (.t 6) (.reg [
 ⟨some 7, .mv (.t 0), none⟩,
 ⟨some 8, .call n_parser_reader_peek [((.t 7), false)] true, none⟩,
 ⟨some 9, .call n_parser_fail [((.t 8), false), ((.c (.int .i64 1)), false)] false, none⟩])
 .skip))
 (.seq (.reg [
 ⟨some 10, .mv (.t 0), none⟩,
 ⟨some 11, .call n_parser_reader_skip [((.t 10), false)] true, none⟩,
 ⟨some 12, .fld (.t 11) 3 1 false, none⟩,
 ⟨some 2, .mv (.t 12), none⟩])
 .ret))), [.tmp 2]⟩
@[go_sem] def mk_64 : List Bool := [K0,K0,K0,K0,K0,K1,K1,K1,K1,K1]
@[go_sem] def mk_65 : List Bool := [K0,K0,K0,K1,K0,K1,K1,K1,K1,K1,K1,K1,K1,K1,K1,K1,K1,K1,K1,K1,K1]

/- (*billing/parser.reader).slot -/
def parser_reader_slot_l1b : AC := (.seq (.seq (.reg [
 ⟨some 10, .mv (.t 0), none⟩,
 ⟨some 11, .call n_parser_reader_takeSymbol [((.t 10), false), ((.c (.str [43])), false)] true, none⟩])
 (.cond (.t 11) .skip
 (.exit 0)))
 (.blk 1 (.seq (.reg [
 ⟨some 12, .mv (.t 0), none⟩,
 ⟨some 13, .mv (.t 3), none⟩,
 ⟨some 14, .call n_parser_reader_day [((.t 12), false), ((.t 13), false)] true, none⟩,
 ⟨some 3, .mv (.t 14), none⟩])
 (.dreg [
 ⟨some 15, .fa (.t 4) 0 (some 4), none⟩,
 ⟨some 16, .ld (.t 15) none false (some 4), none⟩,
 ⟨some 17, .cp (.t 3), none⟩,
 ⟨some 18, .bin .shl (.c (.int .i64 1)) (.t 17), none⟩,
 ⟨some 19, .bin .or (.t 16) (.t 18), none⟩,
 ⟨some 20, .fa (.t 4) 0 (some 4), none⟩,
 ⟨none, .st (.t 20) (.t 19) 1 false (some 4), none⟩]))))
@[go_sem] def mk_66 : List Bool := [K0,K0,K0,K0,K0,K0,K0,K0,K0,K0,K1,K1,K1,K1,K1,K1,K1,K1,K1,K1,K1]
def parser_reader_slot_l1 : AC := .pre mk_66 parser_reader_slot_l1b
@[go_sem] theorem parser_reader_slot_l1_go : LoopRule parser_reader_slot_l1 parser_reader_slot_l1b mk_66 := loopRule
@[go_sem] theorem parser_reader_slot_l1_lp : LpRule parser_reader_slot_l1 parser_reader_slot_l1b mk_66 := lpRule
def parser_reader_slot_k1b : AC := (.seq (.reg [
 ⟨some 21, .mv (.t 0), none⟩,
 ⟨some 22, .call n_parser_reader_time [((.t 21), false), ((.c (.int .i64 23)), false)] true, none⟩,
 ⟨some 23, .fa (.t 4) 1 (some 4), none⟩,
 ⟨none, .st (.t 23) (.t 22) 1 false (some 4), none⟩])
 (.seq (.reg [
 ⟨some 24, .mv (.t 0), none⟩,
 ⟨some 25, .call n_parser_reader_needSymbol [((.t 24), false), ((.c (.str [45])), false)] true, none⟩])
 (.seq (.reg [
 ⟨some 26, .mv (.t 0), none⟩,
 ⟨some 27, .call n_parser_reader_time [((.t 26), false), ((.c (.int .i64 24)), false)] true, none⟩,
 ⟨some 28, .fa (.t 4) 2 (some 4), none⟩,
 ⟨none, .st (.t 28) (.t 27) 1 false (some 4), none⟩])
 (.seq (.reg [
 ⟨some 29, .ld (.t 4) (some 3) false (some 4), none⟩,
 ⟨none, .st (.t 2) (.t 29) 3 false (some 2), none⟩])
 .ret))))
def parser_reader_slot_k1 : AC := .pre mk_65 parser_reader_slot_k1b
def a_parser_reader_slot : AF := ⟨30, (.seq (.reg [
 ⟨some 2, .newbox [(.int .i64 0), (.int .i64 0), (.int .i64 0)], none⟩])
 (.seq (.reg [
 ⟨some 5, .mv (.t 0), none⟩,
 ⟨some 6, .call n_parser_reader_day [((.t 5), false), ((.c (.int .i64 (-1))), false)] true, none⟩,
 ⟨some 3, .mv (.t 6), none⟩])
 (.seq (.reg [
 ⟨some 7, .mv (.t 3), none⟩,
 ⟨some 8, .bin .shl (.c (.int .i64 1)) (.t 7), none⟩,
 ⟨some 9, .build [(.int .i64 0), (.int .i64 0), (.int .i64 0)] [(0, 1, (.t 8))], none⟩,
 ⟨some 4, .newbox [(.int .i64 0), (.int .i64 0), (.int .i64 0)], none⟩,
 ⟨none, .st (.t 4) (.t 9) 3 false (some 4), none⟩])
 (.seq (.blk 0 (.pre mk_64 (.loop parser_reader_slot_l1)))
 parser_reader_slot_k1)))), [.cell 2 (some 3)]⟩

/- billing/parser.kind -/
def a_parser_kind : AF := ⟨12, (.seq (.reg [
 ⟨some 2, .mv (.c (.int .i64 0)), none⟩])
 (.seq (.seq (.reg [
 ⟨some 3, .mv (.t 0), none⟩])
 (.blk 0 (.seq (.reg [
 ⟨some 5, .bin .eql (.t 3) (.c (.str [118, 111, 105, 99, 101])), none⟩,
 ⟨some 4, .mv (.t 5), none⟩])
 (.cond (.t 4) (.seq (.reg [
 ⟨some 2, .mv (.c (.int .i64 1)), none⟩])
 .ret)
 (.seq (.reg [
 ⟨some 7, .bin .eql (.t 3) (.c (.str [116, 101, 120, 116])), none⟩,
 ⟨some 6, .mv (.t 7), none⟩])
 (.cond (.t 6) (.seq (.reg [
 ⟨some 2, .mv (.c (.int .i64 2)), none⟩])
 .ret)
 (.seq (.reg [
 ⟨some 9, .bin .eql (.t 3) (.c (.str [100, 97, 116, 97])), none⟩,
 ⟨some 8, .mv (.t 9), none⟩])
 (.cond (.t 8) (.seq (.reg [
 ⟨some 2, .mv (.c (.int .i64 3)), none⟩])
 .ret)
 (.seq (.reg [
 ⟨some 11, .bin .eql (.t 3) (.c (.str [99, 111, 110, 116, 101, 110, 116])), none⟩,
 ⟨some 10, .mv (.t 11), none⟩])
 (.cond (.t 10) (.seq (.reg [
 ⟨some 2, .mv (.c (.int .i64 4)), none⟩])
 .ret)
 .skip))))))))))
 (.seq (.reg [
 ⟨some 2, .mv (.c (.int .i64 0)), none⟩])
 .ret))), [.tmp 2]⟩

/- (*billing/parser.reader).nameOrAny -/
def a_parser_reader_nameOrAny : AF := ⟨7, (.seq (.reg [
 ⟨some 2, .mv (.c (.str [])), none⟩])
 (.seq (.seq (.reg [
 ⟨some 3, .mv (.t 0), none⟩,
 ⟨some 4, .call n_parser_reader_takeWord [((.t 3), false), ((.c (.str [97, 110, 121])), false)] true, none⟩])
 (.cond (.t 4) (.seq (.reg [
 ⟨some 2, .mv (.c (.str [])), none⟩])
 .ret)
 .skip))
 (.seq (.reg [
 ⟨some 5, .mv (.t 0), none⟩,
 ⟨some 6, .call n_parser_reader_name [((.t 5), false)] true, none⟩,
 ⟨some 2, .mv (.t 6), none⟩])
 .ret))), [.tmp 2]⟩

/- (*billing/parser.reader).number -/
def a_parser_reader_number : AF := ⟨26, (.seq (.reg [
 ⟨some 2, .mv (.c (.int .i64 0)), none⟩])
 (.seq (.reg [
 ⟨some 4, .mv (.t 0), none⟩,
 ⟨some 5, .call n_parser_reader_peek [((.t 4), false)] true, none⟩,
 ⟨some 3, .newbox [(.int .i64 0), (.int .i64 0), (.int .i64 0), (.str [])], none⟩,
 ⟨none, .st (.t 3) (.t 5) 4 false (some 3), none⟩])
 (.seq (.seq (.reg [
 ⟨some 6, .fa (.t 3) 0 (some 3), none⟩,
 ⟨some 7, .ld (.t 6) none false (some 3), none⟩,
 ⟨some 8, .bin .neq (.t 7) (.c (.int .i64 2)), none⟩,
 ⟨some 9, .mv (.t 8), none⟩,
 ⟨some 10, .fa (.t 3) 3 (some 3), some (9, false)⟩,
 ⟨some 11, .ld (.t 10) none false (some 3), some (9, false)⟩,
 ⟨some 12, .len true (.t 11) none, some (9, false)⟩,
 ⟨some 13, .bin .gtr (.t 12) (.c (.int .i64 1)), some (9, false)⟩,
 ⟨some 14, .mv (.t 13), some (9, false)⟩,
 ⟨some 15, .fa (.t 3) 3 (some 3), some (14, true)⟩,
 ⟨some 16, .ld (.t 15) none false (some 3), some (14, true)⟩,
 ⟨some 17, .idx (.t 16) (.c (.int .i64 0)) none 1 false, some (14, true)⟩,
 ⟨some 18, .bin .eql (.t 17) (.c (.int .u8 48)), some (14, true)⟩,
 ⟨some 19, .pick (.t 14) (.t 18) (.c (.bool false)), some (9, false)⟩,
 ⟨some 20, .pick (.t 9) (.c (.bool true)) (.t 19), none⟩])
 (.cond (.t 20) (.reg [
 ⟨some 21, .ld (.t 3) (some 4) false (some 3), none⟩,
 ⟨some 22, .call n_parser_fail [((.t 21), false), ((.c (.int .i64 1)), false)] false, none⟩])
 .skip))
 (.seq (.reg [
 ⟨some 23, .mv (.t 0), none⟩,
 ⟨some 24, .call n_parser_reader_skip [((.t 23), false)] true, none⟩,
 ⟨some 25, .fld (.t 24) 1 1 false, none⟩,
 ⟨some 2, .mv (.t 25), none⟩])
 .ret)))), [.tmp 2]⟩

/- (*billing/parser.reader).step -/
def a_parser_reader_step : AF := ⟨20, (.seq (.reg [
 ⟨some 2, .newbox [(.int .i64 0), (.int .i64 0), (.int .i64 0)], none⟩])
 (.seq (.reg [
 ⟨some 3, .newbox [(.int .i64 0), (.int .i64 0), (.int .i64 0)], none⟩])
 (.seq (.seq (.reg [
 ⟨some 4, .mv (.t 0), none⟩,
 ⟨some 5, .call n_parser_reader_takeWord [((.t 4), false), ((.c (.str [117, 112, 116, 111])), false)] true, none⟩])
 (.cond (.t 5) (.reg [
 ⟨some 6, .mv (.t 0), none⟩,
 ⟨some 7, .call n_parser_reader_number [((.t 6), false)] true, none⟩,
 ⟨some 8, .fa (.t 3) 0 (some 3), none⟩,
 ⟨none, .st (.t 8) (.t 7) 1 false (some 3), none⟩])
 .skip))
 (.seq (.reg [
 ⟨some 9, .mv (.t 0), none⟩,
 ⟨some 10, .call n_parser_reader_needWord [((.t 9), false), ((.c (.str [112, 101, 114])), false)] true, none⟩])
 (.seq (.reg [
 ⟨some 11, .mv (.t 0), none⟩,
 ⟨some 12, .call n_parser_reader_number [((.t 11), false)] true, none⟩,
 ⟨some 13, .fa (.t 3) 1 (some 3), none⟩,
 ⟨none, .st (.t 13) (.t 12) 1 false (some 3), none⟩])
 (.seq (.reg [
 ⟨some 14, .mv (.t 0), none⟩,
 ⟨some 15, .call n_parser_reader_needWord [((.t 14), false), ((.c (.str [97, 116])), false)] true, none⟩])
 (.seq (.reg [
 ⟨some 16, .mv (.t 0), none⟩,
 ⟨some 17, .call n_parser_reader_number [((.t 16), false)] true, none⟩,
 ⟨some 18, .fa (.t 3) 2 (some 3), none⟩,
 ⟨none, .st (.t 18) (.t 17) 1 false (some 3), none⟩])
 (.seq (.reg [
 ⟨some 19, .ld (.t 3) (some 3) false (some 3), none⟩,
 ⟨none, .st (.t 2) (.t 19) 3 false (some 2), none⟩])
 .ret)))))))), [.cell 2 (some 3)]⟩
@[go_sem] def mk_67 : List Bool := [K1,K0,K0,K0,K0,K0,K0,K0,K0,K1,K1]
@[go_sem] def mk_68 : List Bool := [K1,K0,K0,K1,K0,K0,K0,K0,K0,K1,K1,K1,K1,K1,K1,K1,K1,K1]

/- (*billing/parser.reader).negated -/
def parser_reader_negated_l1b : AC := (.seq (.seq (.reg [
 ⟨some 5, .mv (.t 0), none⟩,
 ⟨some 6, .call n_parser_reader_takeWord [((.t 5), false), ((.c (.str [110, 111, 116])), false)] true, none⟩])
 (.cond (.t 6) .skip
 (.exit 0)))
 (.blk 1 (.reg [
 ⟨some 7, .mv (.t 3), none⟩,
 ⟨some 8, .bin .add (.t 7) (.c (.int .i64 1)), none⟩,
 ⟨some 3, .mv (.t 8), none⟩])))
def parser_reader_negated_l1 : AC := .pre mk_46 parser_reader_negated_l1b
@[go_sem] theorem parser_reader_negated_l1_go : LoopRule parser_reader_negated_l1 parser_reader_negated_l1b mk_46 := loopRule
@[go_sem] theorem parser_reader_negated_l1_lp : LpRule parser_reader_negated_l1 parser_reader_negated_l1b mk_46 := lpRule
def parser_reader_negated_l2b : AC := (.seq (.seq (.reg [
 ⟨some 11, .mv (.t 3), none⟩,
 ⟨some 12, .bin .gtr (.t 11) (.c (.int .i64 0)), none⟩])
 (.cond (.t 12) .skip
 (.exit 2)))
 (.seq (.blk 3 (.reg [
 ⟨some 15, .ld (.t 4) (some 4) false (some 4), none⟩,
 ⟨some 16, .bsl 4 1 (.agg [(.int .i64 0), (.int .i64 0), (.str []), (.sl false 4 [])]) [(0, (.t 15))], none⟩,
 ⟨none, .cm 16, none⟩,
 ⟨some 17, .build [(.int .i64 0), (.int .i64 0), (.str []), (.sl false 4 [])] [(0, 1, (.c (.int .i64 4))), (3, 1, (.t 16))], none⟩,
 ⟨none, .st (.t 4) (.t 17) 4 false (some 4), none⟩]))
 (.reg [
 ⟨some 13, .mv (.t 3), none⟩,
 ⟨some 14, .bin .sub (.t 13) (.c (.int .i64 1)), none⟩,
 ⟨some 3, .mv (.t 14), none⟩])))
@[go_sem] def mk_69 : List Bool := [K0,K0,K0,K0,K0,K0,K0,K0,K0,K0,K0,K1,K1,K1,K1,K1,K1,K1]
def parser_reader_negated_l2 : AC := .pre mk_69 parser_reader_negated_l2b
@[go_sem] theorem parser_reader_negated_l2_go : LoopRule parser_reader_negated_l2 parser_reader_negated_l2b mk_69 := loopRule
@[go_sem] theorem parser_reader_negated_l2_lp : LpRule parser_reader_negated_l2 parser_reader_negated_l2b mk_69 := lpRule
def parser_reader_negated_k1b : AC := (.seq (.reg [
 ⟨some 18, .ld (.t 4) (some 4) false (some 4), none⟩,
 ⟨none, .st (.t 2) (.t 18) 4 false (some 2), none⟩])
 .ret)
def parser_reader_negated_k1 : AC := .pre mk_68 parser_reader_negated_k1b
def parser_reader_negated_k2b : AC := (.seq (.reg [
 ⟨some 9, .mv (.t 0), none⟩,
 ⟨some 10, .call n_parser_reader_compared [((.t 9), false)] true, none⟩,
 ⟨some 4, .newbox [(.int .i64 0), (.int .i64 0), (.str []), (.sl false 4 [])], none⟩,
 ⟨none, .st (.t 4) (.t 10) 4 false (some 4), none⟩])
 (.seq (.blk 2 (.pre mk_67 (.loop parser_reader_negated_l2)))
 parser_reader_negated_k1))
def parser_reader_negated_k2 : AC := .pre mk_46 parser_reader_negated_k2b
def a_parser_reader_negated : AF := ⟨19, (.seq (.reg [
 ⟨some 2, .newbox [(.int .i64 0), (.int .i64 0), (.str []), (.sl false 4 [])], none⟩])
 (.seq (.reg [
 ⟨some 3, .mv (.c (.int .i64 0)), none⟩])
 (.seq (.blk 0 (.loop parser_reader_negated_l1))
 parser_reader_negated_k2))), [.cell 2 (some 4)]⟩

/- billing/lexer.fail -/
def a_lexer_fail : AF := ⟨8, (.reg [
 ⟨some 4, .mv (.t 0), none⟩,
 ⟨some 5, .mv (.t 1), none⟩,
 ⟨some 6, .build [(.int .i64 0), (.int .i64 0)] [(0, 1, (.t 4)), (1, 1, (.t 5))], none⟩,
 ⟨some 7, .mki 99 (.t 6), none⟩,
 ⟨none, .pan (.t 7), none⟩]), []⟩

/- billing/billingref23.inWord -/
def a_billingref23_inWord : AF := ⟨13, (.seq (.reg [
 ⟨some 2, .mv (.c (.bool false)), none⟩])
 (.seq (.reg [
 ⟨some 3, .mv (.t 0), none⟩,
 ⟨some 4, .call n_billingref23_Lower [((.t 3), false)] false, none⟩,
 ⟨some 5, .mv (.t 4), none⟩,
 ⟨some 6, .mv (.t 0), some (5, false)⟩,
 ⟨some 7, .call n_billingref23_Digit [((.t 6), false)] false, some (5, false)⟩,
 ⟨some 8, .pick (.t 5) (.c (.bool true)) (.t 7), none⟩,
 ⟨some 9, .mv (.t 8), none⟩,
 ⟨some 10, .mv (.t 0), some (9, false)⟩,
 ⟨some 11, .bin .eql (.t 10) (.c (.int .u8 45)), some (9, false)⟩,
 ⟨some 12, .pick (.t 9) (.c (.bool true)) (.t 11), none⟩,
 ⟨some 2, .mv (.t 12), none⟩])
 .ret)), [.tmp 2]⟩
@[go_sem] def mk_70 : List Bool := [K1]

/- billing/billingref23.Symbols -/
def a_billingref23_Symbols : AF := ⟨2, (.seq (.reg [
 ⟨some 0, .mv (.c (.sl true 1 [])), none⟩])
 (.pre mk_70 (.seq (.reg [
 ⟨some 1, .bsl 1 16 (.str []) [(0, (.c (.str [60, 62]))), (1, (.c (.str [60, 61]))), (2, (.c (.str [62, 61]))), (3, (.c (.str [59]))), (4, (.c (.str [44]))), (5, (.c (.str [43]))), (6, (.c (.str [45]))), (7, (.c (.str [58]))), (8, (.c (.str [40]))), (9, (.c (.str [41]))), (10, (.c (.str [61]))), (11, (.c (.str [60]))), (12, (.c (.str [62]))), (13, (.c (.str [42]))), (14, (.c (.str [47]))), (15, (.c (.str [37])))], none⟩,
 ⟨some 0, .mv (.t 1), none⟩])
 .ret))), [.tmp 0]⟩
@[go_sem] def mk_71 : List Bool := [K1,K1,K0,K0,K1,K1,K1,K1,K1,K1,K1,K1,K1,K1,K1,K1,K1,K1,K1]

/- billing/billingref24.Place -/
def billingref24_Place_l1b : AC := (.seq (.seq (.reg [
 ⟨some 6, .mv (.t 5), none⟩,
 ⟨some 7, .cp (.t 0), none⟩,
 ⟨some 8, .len false (.t 7) (some 0), none⟩,
 ⟨some 9, .bin .lss (.t 6) (.t 8), none⟩])
 (.cond (.t 9) .skip
 (.exit 0)))
 (.seq (.blk 1 (.seq (.reg [
 ⟨some 12, .cp (.t 0), none⟩,
 ⟨some 13, .mv (.t 5), none⟩,
 ⟨some 14, .ia (.t 12) (.t 13) 1 none (some 0), none⟩,
 ⟨some 15, .ld (.t 14) none false none, none⟩,
 ⟨some 16, .mv (.t 1), none⟩,
 ⟨some 17, .bin .eql (.t 15) (.t 16), none⟩])
 (.cond (.t 17) (.seq (.reg [
 ⟨some 18, .mv (.t 5), none⟩,
 ⟨some 4, .mv (.t 18), none⟩])
 .ret)
 .skip)))
 (.reg [
 ⟨some 10, .mv (.t 5), none⟩,
 ⟨some 11, .bin .add (.t 10) (.c (.int .i64 1)), none⟩,
 ⟨some 5, .mv (.t 11), none⟩])))
@[go_sem] def mk_72 : List Bool := [K0,K0,K0,K0,K1,K0,K1,K1,K1,K1,K1,K1,K1,K1,K1,K1,K1,K1,K1]
def billingref24_Place_l1 : AC := .pre mk_72 billingref24_Place_l1b
@[go_sem] theorem billingref24_Place_l1_go : LoopRule billingref24_Place_l1 billingref24_Place_l1b mk_72 := loopRule
@[go_sem] theorem billingref24_Place_l1_lp : LpRule billingref24_Place_l1 billingref24_Place_l1b mk_72 := lpRule
def billingref24_Place_k1b : AC := (.seq (.reg [
 ⟨some 4, .mv (.c (.int .i64 (-1))), none⟩])
 .ret)
def billingref24_Place_k1 : AC := .pre mk_71 billingref24_Place_k1b
def a_billingref24_Place : AF := ⟨19, (.seq (.reg [
 ⟨none, .cm 0, none⟩,
 ⟨some 4, .mv (.c (.int .i64 0)), none⟩])
 (.seq (.seq (.reg [
 ⟨some 5, .mv (.c (.int .i64 0)), none⟩])
 (.blk 0 (.loop billingref24_Place_l1)))
 billingref24_Place_k1)), [.tmp 4]⟩

/- billing/billingref24.Attributes -/
def a_billingref24_Attributes : AF := ⟨2, (.seq (.reg [
 ⟨some 0, .mv (.c (.sl true 1 [])), none⟩])
 (.pre mk_70 (.seq (.reg [
 ⟨some 1, .bsl 1 9 (.str []) [(0, (.c (.str [107, 105, 110, 100]))), (1, (.c (.str [117, 110, 105, 116, 115]))), (2, (.c (.str [119, 101, 101, 107, 100, 97, 121]))), (3, (.c (.str [109, 105, 110, 117, 116, 101]))), (4, (.c (.str [116, 111, 116, 97, 108]))), (5, (.c (.str [115, 112, 101, 110, 116]))), (6, (.c (.str [122, 111, 110, 101]))), (7, (.c (.str [98, 97, 110, 100]))), (8, (.c (.str [102, 97, 109, 105, 108, 121])))], none⟩,
 ⟨some 0, .mv (.t 1), none⟩])
 .ret))), [.tmp 0]⟩

/- (*billing/billingref24.Reader).negated -/
def a_billingref24_Reader_negated : AF := ⟨11, (.seq (.reg [
 ⟨some 2, .newbox [(.int .i64 0), (.int .i64 0), (.str []), (.sl false 4 [])], none⟩])
 (.seq (.seq (.reg [
 ⟨some 3, .mv (.t 0), none⟩,
 ⟨some 4, .call n_billingref24_Reader_accept [((.t 3), false), ((.c (.str [110, 111, 116])), false)] true, none⟩])
 (.cond (.t 4) (.seq (.reg [
 ⟨some 5, .mv (.t 0), none⟩,
 ⟨some 6, .call n_billingref24_Reader_negated [((.t 5), false)] true, none⟩,
 ⟨some 7, .bsl 4 1 (.agg [(.int .i64 0), (.int .i64 0), (.str []), (.sl false 4 [])]) [(0, (.t 6))], none⟩,
 ⟨none, .cm 7, none⟩,
 ⟨some 8, .build [(.int .i64 0), (.int .i64 0), (.str []), (.sl false 4 [])] [(0, 1, (.c (.int .i64 4))), (3, 1, (.t 7))], none⟩,
 ⟨none, .st (.t 2) (.t 8) 4 false (some 2), none⟩])
 .ret)
 .skip))
 (.seq (.reg [
 ⟨some 9, .mv (.t 0), none⟩,
 ⟨some 10, .call n_billingref24_Reader_compared [((.t 9), false)] true, none⟩,
 ⟨none, .st (.t 2) (.t 10) 4 false (some 2), none⟩])
 .ret))), [.cell 2 (some 4)]⟩

/- (*billing/billingref24.Reader).is -/
def a_billingref24_Reader_is : AF := ⟨29, (.seq (.reg [
 ⟨some 4, .mv (.c (.bool false)), none⟩])
 (.seq (.reg [
 ⟨some 6, .mv (.t 0), none⟩,
 ⟨some 7, .call n_billingref24_Reader_now [((.t 6), false)] true, none⟩,
 ⟨some 5, .newbox [(.int .i64 0), (.int .i64 0), (.int .i64 0), (.str [])], none⟩,
 ⟨none, .st (.t 5) (.t 7) 4 false (some 5), none⟩])
 (.seq (.reg [
 ⟨some 8, .mv (.t 0), none⟩,
 ⟨some 9, .nck (.t 8) none, none⟩,
 ⟨some 10, .fa (.t 9) 2 none, none⟩,
 ⟨some 11, .ld (.t 10) none false none, none⟩,
 ⟨some 12, .bin .eql (.t 11) (.c (.int .i64 0)), none⟩,
 ⟨some 13, .mv (.t 12), none⟩,
 ⟨some 14, .fa (.t 5) 0 (some 5), some (13, true)⟩,
 ⟨some 15, .ld (.t 14) none false (some 5), some (13, true)⟩,
 ⟨some 16, .bin .eql (.t 15) (.c (.int .i64 1)), some (13, true)⟩,
 ⟨some 17, .mv (.t 16), some (13, true)⟩,
 ⟨some 18, .fa (.t 5) 0 (some 5), some (17, false)⟩,
 ⟨some 19, .ld (.t 18) none false (some 5), some (17, false)⟩,
 ⟨some 20, .bin .eql (.t 19) (.c (.int .i64 4)), some (17, false)⟩,
 ⟨some 21, .pick (.t 17) (.c (.bool true)) (.t 20), some (13, true)⟩,
 ⟨some 22, .pick (.t 13) (.t 21) (.c (.bool false)), none⟩,
 ⟨some 23, .mv (.t 22), none⟩,
 ⟨some 24, .fa (.t 5) 3 (some 5), some (23, true)⟩,
 ⟨some 25, .ld (.t 24) none false (some 5), some (23, true)⟩,
 ⟨some 26, .mv (.t 1), some (23, true)⟩,
 ⟨some 27, .bin .eql (.t 25) (.t 26), some (23, true)⟩,
 ⟨some 28, .pick (.t 23) (.t 27) (.c (.bool false)), none⟩,
 ⟨some 4, .mv (.t 28), none⟩])
 .ret))), [.tmp 4]⟩

/- (*billing/billingref24.Reader).next -/
def a_billingref24_Reader_next : AF := ⟨27, (.seq (.dreg [
 ⟨some 2, .cp (.t 0), none⟩,
 ⟨some 3, .nck (.t 2) none, none⟩,
 ⟨some 4, .fa (.t 3) 2 none, none⟩,
 ⟨some 5, .ld (.t 4) none false none, none⟩,
 ⟨some 6, .bin .eql (.t 5) (.c (.int .i64 0)), none⟩,
 ⟨some 7, .cp (.t 6), none⟩,
 ⟨some 8, .cp (.t 0), some (7, true)⟩,
 ⟨some 9, .nck (.t 8) none, some (7, true)⟩,
 ⟨some 10, .fa (.t 9) 1 none, some (7, true)⟩,
 ⟨some 11, .ld (.t 10) none false none, some (7, true)⟩,
 ⟨some 12, .cp (.t 0), some (7, true)⟩,
 ⟨some 13, .nck (.t 12) none, some (7, true)⟩,
 ⟨some 14, .fa (.t 13) 0 none, some (7, true)⟩,
 ⟨some 15, .ld (.t 14) none false none, some (7, true)⟩,
 ⟨some 16, .len false (.t 15) none, some (7, true)⟩,
 ⟨some 17, .bin .sub (.t 16) (.c (.int .i64 1)), some (7, true)⟩,
 ⟨some 18, .bin .lss (.t 11) (.t 17), some (7, true)⟩,
 ⟨some 19, .pick (.t 7) (.t 18) (.c (.bool false)), none⟩])
 (.cond (.t 19) (.reg [
 ⟨some 20, .mv (.t 0), none⟩,
 ⟨some 21, .nck (.t 20) none, none⟩,
 ⟨some 22, .fa (.t 21) 1 none, none⟩,
 ⟨some 23, .ld (.t 22) none false none, none⟩,
 ⟨some 24, .bin .add (.t 23) (.c (.int .i64 1)), none⟩,
 ⟨some 25, .nck (.t 20) none, none⟩,
 ⟨some 26, .fa (.t 25) 1 none, none⟩,
 ⟨none, .st (.t 26) (.t 24) 1 false none, none⟩])
 .skip)), []⟩

/- billing/calendar.leap -/
def a_calendar_leap : AF := ⟨16, (.seq (.reg [
 ⟨some 2, .mv (.c (.bool false)), none⟩])
 (.seq (.reg [
 ⟨some 3, .mv (.t 0), none⟩,
 ⟨some 4, .bin .rem (.t 3) (.c (.int .i64 4)), none⟩,
 ⟨some 5, .bin .eql (.t 4) (.c (.int .i64 0)), none⟩,
 ⟨some 6, .mv (.t 5), none⟩,
 ⟨some 7, .mv (.t 0), some (6, true)⟩,
 ⟨some 8, .bin .rem (.t 7) (.c (.int .i64 100)), some (6, true)⟩,
 ⟨some 9, .bin .neq (.t 8) (.c (.int .i64 0)), some (6, true)⟩,
 ⟨some 10, .pick (.t 6) (.t 9) (.c (.bool false)), none⟩,
 ⟨some 11, .mv (.t 10), none⟩,
 ⟨some 12, .mv (.t 0), some (11, false)⟩,
 ⟨some 13, .bin .rem (.t 12) (.c (.int .i64 400)), some (11, false)⟩,
 ⟨some 14, .bin .eql (.t 13) (.c (.int .i64 0)), some (11, false)⟩,
 ⟨some 15, .pick (.t 11) (.c (.bool true)) (.t 14), none⟩,
 ⟨some 2, .mv (.t 15), none⟩])
 .ret)), [.tmp 2]⟩

/- billing/calendar.Length -/
def a_calendar_Length : AF := ⟨22, (.seq (.reg [
 ⟨some 4, .mv (.c (.int .i64 0)), none⟩])
 (.seq (.seq (.reg [
 ⟨some 5, .mv (.t 0), none⟩,
 ⟨some 6, .bin .lss (.t 5) (.c (.int .i64 2000)), none⟩,
 ⟨some 7, .mv (.t 6), none⟩,
 ⟨some 8, .mv (.t 0), some (7, false)⟩,
 ⟨some 9, .bin .gtr (.t 8) (.c (.int .i64 2399)), some (7, false)⟩,
 ⟨some 10, .pick (.t 7) (.c (.bool true)) (.t 9), none⟩,
 ⟨some 11, .mv (.t 10), none⟩,
 ⟨some 12, .mv (.t 1), some (11, false)⟩,
 ⟨some 13, .bin .lss (.t 12) (.c (.int .i64 1)), some (11, false)⟩,
 ⟨some 14, .pick (.t 11) (.c (.bool true)) (.t 13), none⟩,
 ⟨some 15, .mv (.t 14), none⟩,
 ⟨some 16, .mv (.t 1), some (15, false)⟩,
 ⟨some 17, .bin .gtr (.t 16) (.c (.int .i64 12)), some (15, false)⟩,
 ⟨some 18, .pick (.t 15) (.c (.bool true)) (.t 17), none⟩])
 (.cond (.t 18) (.seq (.reg [
 ⟨some 4, .mv (.c (.int .i64 0)), none⟩])
 .ret)
 .skip))
 (.seq (.reg [
 ⟨some 19, .mv (.t 0), none⟩,
 ⟨some 20, .mv (.t 1), none⟩,
 ⟨some 21, .call n_calendar_days [((.t 19), false), ((.t 20), false)] false, none⟩,
 ⟨some 4, .mv (.t 21), none⟩])
 .ret))), [.tmp 4]⟩

/- (*billing/parser.reader).symbol -/
def a_parser_reader_symbol : AF := ⟨16, (.seq (.reg [
 ⟨some 4, .mv (.c (.bool false)), none⟩])
 (.seq (.reg [
 ⟨some 5, .mv (.t 0), none⟩,
 ⟨some 6, .call n_parser_reader_peek [((.t 5), false)] true, none⟩,
 ⟨some 7, .fld (.t 6) 0 1 false, none⟩,
 ⟨some 8, .bin .eql (.t 7) (.c (.int .i64 4)), none⟩,
 ⟨some 9, .mv (.t 8), none⟩,
 ⟨some 10, .mv (.t 0), some (9, true)⟩,
 ⟨some 11, .call n_parser_reader_peek [((.t 10), false)] true, some (9, true)⟩,
 ⟨some 12, .fld (.t 11) 3 1 false, some (9, true)⟩,
 ⟨some 13, .mv (.t 1), some (9, true)⟩,
 ⟨some 14, .bin .eql (.t 12) (.t 13), some (9, true)⟩,
 ⟨some 15, .pick (.t 9) (.t 14) (.c (.bool false)), none⟩,
 ⟨some 4, .mv (.t 15), none⟩])
 .ret)), [.tmp 4]⟩

/- (*billing/parser.reader).day -/
def a_parser_reader_day : AF := ⟨25, (.seq (.reg [
 ⟨some 4, .mv (.c (.int .i64 0)), none⟩])
 (.seq (.reg [
 ⟨some 7, .mv (.t 0), none⟩,
 ⟨some 8, .call n_parser_reader_peek [((.t 7), false)] true, none⟩,
 ⟨some 5, .newbox [(.int .i64 0), (.int .i64 0), (.int .i64 0), (.str [])], none⟩,
 ⟨none, .st (.t 5) (.t 8) 4 false (some 5), none⟩])
 (.seq (.reg [
 ⟨some 9, .fa (.t 5) 3 (some 5), none⟩,
 ⟨some 10, .ld (.t 9) none false (some 5), none⟩,
 ⟨some 11, .call n_parser_weekday [((.t 10), false)] false, none⟩,
 ⟨some 6, .mv (.t 11), none⟩])
 (.seq (.seq (.reg [
 ⟨some 12, .fa (.t 5) 0 (some 5), none⟩,
 ⟨some 13, .ld (.t 12) none false (some 5), none⟩,
 ⟨some 14, .bin .neq (.t 13) (.c (.int .i64 1)), none⟩,
 ⟨some 15, .mv (.t 14), none⟩,
 ⟨some 16, .mv (.t 6), some (15, false)⟩,
 ⟨some 17, .mv (.t 1), some (15, false)⟩,
 ⟨some 18, .bin .leq (.t 16) (.t 17), some (15, false)⟩,
 ⟨some 19, .pick (.t 15) (.c (.bool true)) (.t 18), none⟩])
 (.cond (.t 19) (.reg [
 ⟨some 20, .ld (.t 5) (some 4) false (some 5), none⟩,
 ⟨some 21, .call n_parser_fail [((.t 20), false), ((.c (.int .i64 1)), false)] false, none⟩])
 .skip))
 (.seq (.reg [
 ⟨some 22, .mv (.t 0), none⟩,
 ⟨some 23, .call n_parser_reader_skip [((.t 22), false)] true, none⟩])
 (.seq (.reg [
 ⟨some 24, .mv (.t 6), none⟩,
 ⟨some 4, .mv (.t 24), none⟩])
 .ret)))))), [.tmp 4]⟩

/- (*billing/parser.reader).time -/
def a_parser_reader_time : AF := ⟨20, (.seq (.reg [
 ⟨some 4, .mv (.c (.int .i64 0)), none⟩])
 (.seq (.reg [
 ⟨some 7, .mv (.t 0), none⟩,
 ⟨some 8, .mv (.t 1), none⟩,
 ⟨some 9, .call n_parser_reader_fixed [((.t 7), false), ((.c (.int .i64 2)), false), ((.t 8), false)] true, none⟩,
 ⟨some 5, .mv (.t 9), none⟩])
 (.seq (.reg [
 ⟨some 10, .mv (.t 0), none⟩,
 ⟨some 11, .call n_parser_reader_needSymbol [((.t 10), false), ((.c (.str [58])), false)] true, none⟩])
 (.seq (.reg [
 ⟨some 6, .mv (.c (.int .i64 59)), none⟩])
 (.seq (.seq (.reg [
 ⟨some 12, .mv (.t 5), none⟩,
 ⟨some 13, .bin .eql (.t 12) (.c (.int .i64 24)), none⟩])
 (.cond (.t 13) (.reg [
 ⟨some 6, .mv (.c (.int .i64 0)), none⟩])
 .skip))
 (.seq (.reg [
 ⟨some 14, .mv (.t 5), none⟩,
 ⟨some 15, .bin .mul (.c (.int .i64 60)) (.t 14), none⟩,
 ⟨some 16, .mv (.t 0), none⟩,
 ⟨some 17, .mv (.t 6), none⟩,
 ⟨some 18, .call n_parser_reader_fixed [((.t 16), false), ((.c (.int .i64 2)), false), ((.t 17), false)] true, none⟩,
 ⟨some 19, .bin .add (.t 15) (.t 18), none⟩,
 ⟨some 4, .mv (.t 19), none⟩])
 .ret)))))), [.tmp 4]⟩

/- (*billing/parser.reader).compared -/
def a_parser_reader_compared : AF := ⟨43, (.seq (.reg [
 ⟨some 2, .newbox [(.int .i64 0), (.int .i64 0), (.str []), (.sl false 4 [])], none⟩])
 (.seq (.reg [
 ⟨some 7, .mv (.t 0), none⟩,
 ⟨some 8, .call n_parser_reader_sum [((.t 7), false)] true, none⟩,
 ⟨some 3, .newbox [(.int .i64 0), (.int .i64 0), (.str []), (.sl false 4 [])], none⟩,
 ⟨none, .st (.t 3) (.t 8) 4 false (some 3), none⟩])
 (.seq (.seq (.reg [
 ⟨some 9, .mv (.t 0), none⟩,
 ⟨some 10, .call n_parser_reader_peek [((.t 9), false)] true, none⟩,
 ⟨some 11, .fld (.t 10) 0 1 false, none⟩,
 ⟨some 12, .bin .neq (.t 11) (.c (.int .i64 4)), none⟩])
 (.cond (.t 12) (.seq (.reg [
 ⟨some 13, .ld (.t 3) (some 4) false (some 3), none⟩,
 ⟨none, .st (.t 2) (.t 13) 4 false (some 2), none⟩])
 .ret)
 .skip))
 (.seq (.reg [
 ⟨some 4, .mv (.c (.int .i64 0)), none⟩,
 ⟨some 5, .mv (.c (.bool false)), none⟩])
 (.seq (.seq (.reg [
 ⟨some 14, .mv (.t 0), none⟩,
 ⟨some 15, .call n_parser_reader_peek [((.t 14), false)] true, none⟩,
 ⟨some 16, .fld (.t 15) 3 1 false, none⟩])
 (.blk 0 (.seq (.reg [
 ⟨some 19, .bin .eql (.t 16) (.c (.str [61])), none⟩,
 ⟨some 18, .mv (.t 19), none⟩])
 (.cond (.t 18) (.reg [
 ⟨some 4, .mv (.c (.int .i64 7)), none⟩])
 (.seq (.reg [
 ⟨some 21, .bin .eql (.t 16) (.c (.str [60, 62])), none⟩,
 ⟨some 20, .mv (.t 21), none⟩])
 (.cond (.t 20) (.reg [
 ⟨some 4, .mv (.c (.int .i64 8)), none⟩])
 (.seq (.reg [
 ⟨some 23, .bin .eql (.t 16) (.c (.str [60])), none⟩,
 ⟨some 22, .mv (.t 23), none⟩])
 (.cond (.t 22) (.reg [
 ⟨some 4, .mv (.c (.int .i64 9)), none⟩])
 (.seq (.reg [
 ⟨some 25, .bin .eql (.t 16) (.c (.str [60, 61])), none⟩,
 ⟨some 24, .mv (.t 25), none⟩])
 (.cond (.t 24) (.reg [
 ⟨some 4, .mv (.c (.int .i64 10)), none⟩])
 (.seq (.reg [
 ⟨some 27, .bin .eql (.t 16) (.c (.str [62])), none⟩,
 ⟨some 26, .mv (.t 27), none⟩])
 (.cond (.t 26) (.reg [
 ⟨some 4, .mv (.c (.int .i64 9)), none⟩,
 ⟨some 5, .mv (.c (.bool true)), none⟩])
 (.seq (.reg [
 ⟨some 29, .bin .eql (.t 16) (.c (.str [62, 61])), none⟩,
 ⟨some 28, .mv (.t 29), none⟩])
 (.cond (.t 28) (.reg [
 ⟨some 4, .mv (.c (.int .i64 10)), none⟩,
 ⟨some 5, .mv (.c (.bool true)), none⟩])
 (.seq (.reg [
 ⟨some 17, .ld (.t 3) (some 4) false (some 3), none⟩,
 ⟨none, .st (.t 2) (.t 17) 4 false (some 2), none⟩])
 .ret)))))))))))))))
 (.seq (.reg [
 ⟨some 30, .mv (.t 0), none⟩,
 ⟨some 31, .call n_parser_reader_skip [((.t 30), false)] true, none⟩])
 (.seq (.reg [
 ⟨some 32, .mv (.t 0), none⟩,
 ⟨some 33, .call n_parser_reader_sum [((.t 32), false)] true, none⟩,
 ⟨some 6, .newbox [(.int .i64 0), (.int .i64 0), (.str []), (.sl false 4 [])], none⟩,
 ⟨none, .st (.t 6) (.t 33) 4 false (some 6), none⟩])
 (.seq (.seq (.reg [
 ⟨some 34, .mv (.t 5), none⟩])
 (.cond (.t 34) (.seq (.reg [
 ⟨some 35, .mv (.t 4), none⟩,
 ⟨some 36, .ld (.t 6) (some 4) false (some 6), none⟩,
 ⟨some 37, .ld (.t 3) (some 4) false (some 3), none⟩,
 ⟨some 38, .call n_parser_two [((.t 35), false), ((.t 36), false), ((.t 37), false)] false, none⟩,
 ⟨none, .st (.t 2) (.t 38) 4 false (some 2), none⟩])
 .ret)
 .skip))
 (.seq (.reg [
 ⟨some 39, .mv (.t 4), none⟩,
 ⟨some 40, .ld (.t 3) (some 4) false (some 3), none⟩,
 ⟨some 41, .ld (.t 6) (some 4) false (some 6), none⟩,
 ⟨some 42, .call n_parser_two [((.t 39), false), ((.t 40), false), ((.t 41), false)] false, none⟩,
 ⟨none, .st (.t 2) (.t 42) 4 false (some 2), none⟩])
 .ret))))))))), [.cell 2 (some 4)]⟩

/- (*billing/billingref24.Reader).compared -/
def a_billingref24_Reader_compared : AF := ⟨43, (.seq (.reg [
 ⟨some 2, .newbox [(.int .i64 0), (.int .i64 0), (.str []), (.sl false 4 [])], none⟩])
 (.seq (.reg [
 ⟨some 4, .mv (.t 0), none⟩,
 ⟨some 5, .call n_billingref24_Reader_sum [((.t 4), false)] true, none⟩,
 ⟨some 3, .newbox [(.int .i64 0), (.int .i64 0), (.str []), (.sl false 4 [])], none⟩,
 ⟨none, .st (.t 3) (.t 5) 4 false (some 3), none⟩])
 (.seq (.seq (.reg [
 ⟨some 6, .mv (.t 0), none⟩,
 ⟨some 7, .call n_billingref24_Reader_accept [((.t 6), false), ((.c (.str [61])), false)] true, none⟩])
 (.cond (.t 7) (.seq (.dreg [
 ⟨some 8, .ld (.t 3) (some 4) false (some 3), none⟩,
 ⟨some 9, .cp (.t 0), none⟩,
 ⟨some 10, .call n_billingref24_Reader_sum [((.t 9), false)] true, none⟩,
 ⟨some 11, .call n_billingref24_two [((.c (.int .i64 7)), false), ((.t 8), false), ((.t 10), false)] false, none⟩,
 ⟨none, .st (.t 2) (.t 11) 4 false (some 2), none⟩])
 .ret)
 .skip))
 (.seq (.seq (.reg [
 ⟨some 12, .mv (.t 0), none⟩,
 ⟨some 13, .call n_billingref24_Reader_accept [((.t 12), false), ((.c (.str [60, 62])), false)] true, none⟩])
 (.cond (.t 13) (.seq (.dreg [
 ⟨some 14, .ld (.t 3) (some 4) false (some 3), none⟩,
 ⟨some 15, .cp (.t 0), none⟩,
 ⟨some 16, .call n_billingref24_Reader_sum [((.t 15), false)] true, none⟩,
 ⟨some 17, .call n_billingref24_two [((.c (.int .i64 8)), false), ((.t 14), false), ((.t 16), false)] false, none⟩,
 ⟨none, .st (.t 2) (.t 17) 4 false (some 2), none⟩])
 .ret)
 .skip))
 (.seq (.seq (.reg [
 ⟨some 18, .mv (.t 0), none⟩,
 ⟨some 19, .call n_billingref24_Reader_accept [((.t 18), false), ((.c (.str [60])), false)] true, none⟩])
 (.cond (.t 19) (.seq (.dreg [
 ⟨some 20, .ld (.t 3) (some 4) false (some 3), none⟩,
 ⟨some 21, .cp (.t 0), none⟩,
 ⟨some 22, .call n_billingref24_Reader_sum [((.t 21), false)] true, none⟩,
 ⟨some 23, .call n_billingref24_two [((.c (.int .i64 9)), false), ((.t 20), false), ((.t 22), false)] false, none⟩,
 ⟨none, .st (.t 2) (.t 23) 4 false (some 2), none⟩])
 .ret)
 .skip))
 (.seq (.seq (.reg [
 ⟨some 24, .mv (.t 0), none⟩,
 ⟨some 25, .call n_billingref24_Reader_accept [((.t 24), false), ((.c (.str [60, 61])), false)] true, none⟩])
 (.cond (.t 25) (.seq (.dreg [
 ⟨some 26, .ld (.t 3) (some 4) false (some 3), none⟩,
 ⟨some 27, .cp (.t 0), none⟩,
 ⟨some 28, .call n_billingref24_Reader_sum [((.t 27), false)] true, none⟩,
 ⟨some 29, .call n_billingref24_two [((.c (.int .i64 10)), false), ((.t 26), false), ((.t 28), false)] false, none⟩,
 ⟨none, .st (.t 2) (.t 29) 4 false (some 2), none⟩])
 .ret)
 .skip))
 (.seq (.seq (.reg [
 ⟨some 30, .mv (.t 0), none⟩,
 ⟨some 31, .call n_billingref24_Reader_accept [((.t 30), false), ((.c (.str [62])), false)] true, none⟩])
 (.cond (.t 31) (.seq (.dreg [
 ⟨some 32, .cp (.t 0), none⟩,
 ⟨some 33, .call n_billingref24_Reader_sum [((.t 32), false)] true, none⟩,
 ⟨some 34, .ld (.t 3) (some 4) false (some 3), none⟩,
 ⟨some 35, .call n_billingref24_two [((.c (.int .i64 9)), false), ((.t 33), false), ((.t 34), false)] false, none⟩,
 ⟨none, .st (.t 2) (.t 35) 4 false (some 2), none⟩])
 .ret)
 .skip))
 (.seq (.seq (.reg [
 ⟨some 36, .mv (.t 0), none⟩,
 ⟨some 37, .call n_billingref24_Reader_accept [((.t 36), false), ((.c (.str [62, 61])), false)] true, none⟩])
 (.cond (.t 37) (.seq (.dreg [
 ⟨some 38, .cp (.t 0), none⟩,
 ⟨some 39, .call n_billingref24_Reader_sum [((.t 38), false)] true, none⟩,
 ⟨some 40, .ld (.t 3) (some 4) false (some 3), none⟩,
 ⟨some 41, .call n_billingref24_two [((.c (.int .i64 10)), false), ((.t 39), false), ((.t 40), false)] false, none⟩,
 ⟨none, .st (.t 2) (.t 41) 4 false (some 2), none⟩])
 .ret)
 .skip))
 (.seq (.reg [
 ⟨some 42, .ld (.t 3) (some 4) false (some 3), none⟩,
 ⟨none, .st (.t 2) (.t 42) 4 false (some 2), none⟩])
 .ret))))))))), [.cell 2 (some 4)]⟩
@[go_sem] def mk_73 : List Bool := [K1,K0,K1,K1,K1,K1,K1,K1,K1,K1,K1,K1,K1,K1,K1]

/- billing/parser.weekday -/
def parser_weekday_l1b : AC := (.seq (.reg [
 ⟨some 7, .bin .lss (.t 6) (.c (.int .i64 8)), none⟩])
 (.seq (.cond (.t 7) .skip
 (.exit 0))
 (.seq (.blk 1 (.seq (.reg [
 ⟨some 8, .mv (.t 6), none⟩,
 ⟨some 9, .idx (.t 5) (.t 6) (some 8) 1 false, none⟩,
 ⟨some 3, .mv (.t 8), none⟩,
 ⟨some 4, .mv (.t 9), none⟩])
 (.seq (.reg [
 ⟨some 10, .mv (.t 0), none⟩,
 ⟨some 11, .mv (.t 4), none⟩,
 ⟨some 12, .bin .eql (.t 10) (.t 11), none⟩])
 (.cond (.t 12) (.seq (.reg [
 ⟨some 13, .mv (.t 3), none⟩,
 ⟨some 2, .mv (.t 13), none⟩])
 .ret)
 .skip))))
 (.reg [
 ⟨some 14, .bin .add (.t 6) (.c (.int .i64 1)), none⟩,
 ⟨some 6, .mv (.t 14), none⟩]))))
@[go_sem] def mk_74 : List Bool := [K0,K0,K1,K1,K1,K0,K0,K1,K1,K1,K1,K1,K1,K1,K1]
def parser_weekday_l1 : AC := .pre mk_74 parser_weekday_l1b
@[go_sem] theorem parser_weekday_l1_go : LoopRule parser_weekday_l1 parser_weekday_l1b mk_74 := loopRule
@[go_sem] theorem parser_weekday_l1_lp : LpRule parser_weekday_l1 parser_weekday_l1b mk_74 := lpRule
def parser_weekday_k1b : AC := (.seq (.reg [
 ⟨some 2, .mv (.c (.int .i64 (-1))), none⟩])
 .ret)
def parser_weekday_k1 : AC := .pre mk_73 parser_weekday_k1b
def a_parser_weekday : AF := ⟨15, (.seq (.reg [
 ⟨some 2, .mv (.c (.int .i64 0)), none⟩])
 (.seq (.seq (.reg [
 ⟨some 5, .build [(.str []), (.str []), (.str []), (.str []), (.str []), (.str []), (.str []), (.str [])] [(0, 1, (.c (.str [109, 111, 110]))), (1, 1, (.c (.str [116, 117, 101]))), (2, 1, (.c (.str [119, 101, 100]))), (3, 1, (.c (.str [116, 104, 117]))), (4, 1, (.c (.str [102, 114, 105]))), (5, 1, (.c (.str [115, 97, 116]))), (6, 1, (.c (.str [115, 117, 110]))), (7, 1, (.c (.str [104, 111, 108, 105, 100, 97, 121])))], none⟩,
 ⟨some 6, .mv (.c (.int .i64 0)), none⟩])
 (.blk 0 (.loop parser_weekday_l1)))
 parser_weekday_k1)), [.tmp 2]⟩

/- (*billing/parser.reader).sum -/
def parser_reader_sum_l1b : AC := (.blk 1 (.blk 2 (.seq (.reg [
 ⟨some 8, .mv (.t 0), none⟩,
 ⟨some 9, .call n_parser_reader_takeSymbol [((.t 8), false), ((.c (.str [43])), false)] true, none⟩,
 ⟨some 7, .mv (.t 9), none⟩])
 (.cond (.t 7) (.preg [
 ⟨some 10, .ld (.t 3) (some 4) false (some 3), none⟩,
 ⟨some 11, .cp (.t 0), none⟩,
 ⟨some 12, .call n_parser_reader_product [((.t 11), false)] true, none⟩,
 ⟨some 13, .call n_parser_two [((.c (.int .i64 11)), false), ((.t 10), false), ((.t 12), false)] false, none⟩,
 ⟨none, .st (.t 3) (.t 13) 4 false (some 3), none⟩])
 (.seq (.reg [
 ⟨some 15, .mv (.t 0), none⟩,
 ⟨some 16, .call n_parser_reader_takeSymbol [((.t 15), false), ((.c (.str [45])), false)] true, none⟩,
 ⟨some 14, .mv (.t 16), none⟩])
 (.cond (.t 14) (.preg [
 ⟨some 17, .ld (.t 3) (some 4) false (some 3), none⟩,
 ⟨some 18, .cp (.t 0), none⟩,
 ⟨some 19, .call n_parser_reader_product [((.t 18), false)] true, none⟩,
 ⟨some 20, .call n_parser_two [((.c (.int .i64 12)), false), ((.t 17), false), ((.t 19), false)] false, none⟩,
 ⟨none, .st (.t 3) (.t 20) 4 false (some 3), none⟩])
 (.seq (.reg [
 ⟨some 6, .ld (.t 3) (some 4) false (some 3), none⟩,
 ⟨none, .st (.t 2) (.t 6) 4 false (some 2), none⟩])
 .ret)))))))
@[go_sem] def mk_75 : List Bool := [K0,K0,K0,K0,K0,K0,K1,K1,K1,K1,K1,K1,K1,K1,K1,K1,K1,K1,K1,K1,K1]
def parser_reader_sum_l1 : AC := .pre mk_75 parser_reader_sum_l1b
@[go_sem] theorem parser_reader_sum_l1_go : LoopRule parser_reader_sum_l1 parser_reader_sum_l1b mk_75 := loopRule
@[go_sem] theorem parser_reader_sum_l1_lp : LpRule parser_reader_sum_l1 parser_reader_sum_l1b mk_75 := lpRule
def a_parser_reader_sum : AF := ⟨21, (.seq (.reg [
 ⟨some 2, .newbox [(.int .i64 0), (.int .i64 0), (.str []), (.sl false 4 [])], none⟩])
 (.seq (.reg [
 ⟨some 4, .mv (.t 0), none⟩,
 ⟨some 5, .call n_parser_reader_product [((.t 4), false)] true, none⟩,
 ⟨some 3, .newbox [(.int .i64 0), (.int .i64 0), (.str []), (.sl false 4 [])], none⟩,
 ⟨none, .st (.t 3) (.t 5) 4 false (some 3), none⟩])
 (.blk 0 (.pre mk_29 (.loop parser_reader_sum_l1))))), [.cell 2 (some 4)]⟩

/- (*billing/billingref24.Reader).sum -/
def billingref24_Reader_sum_l1b : AC := (.blk 1 (.seq (.reg [
 ⟨some 6, .mv (.t 0), none⟩,
 ⟨some 7, .call n_billingref24_Reader_accept [((.t 6), false), ((.c (.str [43])), false)] true, none⟩])
 (.cond (.t 7) (.dreg [
 ⟨some 8, .ld (.t 3) (some 4) false (some 3), none⟩,
 ⟨some 9, .cp (.t 0), none⟩,
 ⟨some 10, .call n_billingref24_Reader_product [((.t 9), false)] true, none⟩,
 ⟨some 11, .call n_billingref24_two [((.c (.int .i64 11)), false), ((.t 8), false), ((.t 10), false)] false, none⟩,
 ⟨none, .st (.t 3) (.t 11) 4 false (some 3), none⟩])
 (.seq (.reg [
 ⟨some 12, .mv (.t 0), none⟩,
 ⟨some 13, .call n_billingref24_Reader_accept [((.t 12), false), ((.c (.str [45])), false)] true, none⟩])
 (.cond (.t 13) (.dreg [
 ⟨some 14, .ld (.t 3) (some 4) false (some 3), none⟩,
 ⟨some 15, .cp (.t 0), none⟩,
 ⟨some 16, .call n_billingref24_Reader_product [((.t 15), false)] true, none⟩,
 ⟨some 17, .call n_billingref24_two [((.c (.int .i64 12)), false), ((.t 14), false), ((.t 16), false)] false, none⟩,
 ⟨none, .st (.t 3) (.t 17) 4 false (some 3), none⟩])
 (.seq (.reg [
 ⟨some 18, .ld (.t 3) (some 4) false (some 3), none⟩,
 ⟨none, .st (.t 2) (.t 18) 4 false (some 2), none⟩])
 .ret))))))
@[go_sem] def mk_76 : List Bool := [K0,K0,K0,K0,K0,K0,K1,K1,K1,K1,K1,K1,K1,K1,K1,K1,K1,K1,K1]
def billingref24_Reader_sum_l1 : AC := .pre mk_76 billingref24_Reader_sum_l1b
@[go_sem] theorem billingref24_Reader_sum_l1_go : LoopRule billingref24_Reader_sum_l1 billingref24_Reader_sum_l1b mk_76 := loopRule
@[go_sem] theorem billingref24_Reader_sum_l1_lp : LpRule billingref24_Reader_sum_l1 billingref24_Reader_sum_l1b mk_76 := lpRule
def a_billingref24_Reader_sum : AF := ⟨19, (.seq (.reg [
 ⟨some 2, .newbox [(.int .i64 0), (.int .i64 0), (.str []), (.sl false 4 [])], none⟩])
 (.seq (.reg [
 ⟨some 4, .mv (.t 0), none⟩,
 ⟨some 5, .call n_billingref24_Reader_product [((.t 4), false)] true, none⟩,
 ⟨some 3, .newbox [(.int .i64 0), (.int .i64 0), (.str []), (.sl false 4 [])], none⟩,
 ⟨none, .st (.t 3) (.t 5) 4 false (some 3), none⟩])
 (.blk 0 (.pre mk_29 (.loop billingref24_Reader_sum_l1))))), [.cell 2 (some 4)]⟩

/- (*billing/parser.reader).product -/
def parser_reader_product_l1b : AC := (.blk 1 (.blk 2 (.seq (.reg [
 ⟨some 8, .mv (.t 0), none⟩,
 ⟨some 9, .call n_parser_reader_takeSymbol [((.t 8), false), ((.c (.str [42])), false)] true, none⟩,
 ⟨some 7, .mv (.t 9), none⟩])
 (.cond (.t 7) (.preg [
 ⟨some 10, .ld (.t 3) (some 4) false (some 3), none⟩,
 ⟨some 11, .cp (.t 0), none⟩,
 ⟨some 12, .call n_parser_reader_primary [((.t 11), false)] true, none⟩,
 ⟨some 13, .call n_parser_two [((.c (.int .i64 13)), false), ((.t 10), false), ((.t 12), false)] false, none⟩,
 ⟨none, .st (.t 3) (.t 13) 4 false (some 3), none⟩])
 (.seq (.reg [
 ⟨some 15, .mv (.t 0), none⟩,
 ⟨some 16, .call n_parser_reader_takeSymbol [((.t 15), false), ((.c (.str [47])), false)] true, none⟩,
 ⟨some 14, .mv (.t 16), none⟩])
 (.cond (.t 14) (.preg [
 ⟨some 17, .ld (.t 3) (some 4) false (some 3), none⟩,
 ⟨some 18, .cp (.t 0), none⟩,
 ⟨some 19, .call n_parser_reader_primary [((.t 18), false)] true, none⟩,
 ⟨some 20, .call n_parser_two [((.c (.int .i64 14)), false), ((.t 17), false), ((.t 19), false)] false, none⟩,
 ⟨none, .st (.t 3) (.t 20) 4 false (some 3), none⟩])
 (.seq (.reg [
 ⟨some 22, .mv (.t 0), none⟩,
 ⟨some 23, .call n_parser_reader_takeSymbol [((.t 22), false), ((.c (.str [37])), false)] true, none⟩,
 ⟨some 21, .mv (.t 23), none⟩])
 (.cond (.t 21) (.preg [
 ⟨some 24, .ld (.t 3) (some 4) false (some 3), none⟩,
 ⟨some 25, .cp (.t 0), none⟩,
 ⟨some 26, .call n_parser_reader_primary [((.t 25), false)] true, none⟩,
 ⟨some 27, .call n_parser_two [((.c (.int .i64 15)), false), ((.t 24), false), ((.t 26), false)] false, none⟩,
 ⟨none, .st (.t 3) (.t 27) 4 false (some 3), none⟩])
 (.seq (.reg [
 ⟨some 6, .ld (.t 3) (some 4) false (some 3), none⟩,
 ⟨none, .st (.t 2) (.t 6) 4 false (some 2), none⟩])
 .ret)))))))))
@[go_sem] def mk_77 : List Bool := [K0,K0,K0,K0,K0,K0,K1,K1,K1,K1,K1,K1,K1,K1,K1,K1,K1,K1,K1,K1,K1,K1,K1,K1,K1,K1,K1,K1]
def parser_reader_product_l1 : AC := .pre mk_77 parser_reader_product_l1b
@[go_sem] theorem parser_reader_product_l1_go : LoopRule parser_reader_product_l1 parser_reader_product_l1b mk_77 := loopRule
@[go_sem] theorem parser_reader_product_l1_lp : LpRule parser_reader_product_l1 parser_reader_product_l1b mk_77 := lpRule
def a_parser_reader_product : AF := ⟨28, (.seq (.reg [
 ⟨some 2, .newbox [(.int .i64 0), (.int .i64 0), (.str []), (.sl false 4 [])], none⟩])
 (.seq (.reg [
 ⟨some 4, .mv (.t 0), none⟩,
 ⟨some 5, .call n_parser_reader_primary [((.t 4), false)] true, none⟩,
 ⟨some 3, .newbox [(.int .i64 0), (.int .i64 0), (.str []), (.sl false 4 [])], none⟩,
 ⟨none, .st (.t 3) (.t 5) 4 false (some 3), none⟩])
 (.blk 0 (.pre mk_29 (.loop parser_reader_product_l1))))), [.cell 2 (some 4)]⟩

/- (*billing/billingref24.Reader).product -/
def billingref24_Reader_product_l1b : AC := (.blk 1 (.seq (.reg [
 ⟨some 6, .mv (.t 0), none⟩,
 ⟨some 7, .call n_billingref24_Reader_accept [((.t 6), false), ((.c (.str [42])), false)] true, none⟩])
 (.cond (.t 7) (.dreg [
 ⟨some 8, .ld (.t 3) (some 4) false (some 3), none⟩,
 ⟨some 9, .cp (.t 0), none⟩,
 ⟨some 10, .call n_billingref24_Reader_primary [((.t 9), false)] true, none⟩,
 ⟨some 11, .call n_billingref24_two [((.c (.int .i64 13)), false), ((.t 8), false), ((.t 10), false)] false, none⟩,
 ⟨none, .st (.t 3) (.t 11) 4 false (some 3), none⟩])
 (.seq (.reg [
 ⟨some 12, .mv (.t 0), none⟩,
 ⟨some 13, .call n_billingref24_Reader_accept [((.t 12), false), ((.c (.str [47])), false)] true, none⟩])
 (.cond (.t 13) (.dreg [
 ⟨some 14, .ld (.t 3) (some 4) false (some 3), none⟩,
 ⟨some 15, .cp (.t 0), none⟩,
 ⟨some 16, .call n_billingref24_Reader_primary [((.t 15), false)] true, none⟩,
 ⟨some 17, .call n_billingref24_two [((.c (.int .i64 14)), false), ((.t 14), false), ((.t 16), false)] false, none⟩,
 ⟨none, .st (.t 3) (.t 17) 4 false (some 3), none⟩])
 (.seq (.reg [
 ⟨some 18, .mv (.t 0), none⟩,
 ⟨some 19, .call n_billingref24_Reader_accept [((.t 18), false), ((.c (.str [37])), false)] true, none⟩])
 (.cond (.t 19) (.dreg [
 ⟨some 20, .ld (.t 3) (some 4) false (some 3), none⟩,
 ⟨some 21, .cp (.t 0), none⟩,
 ⟨some 22, .call n_billingref24_Reader_primary [((.t 21), false)] true, none⟩,
 ⟨some 23, .call n_billingref24_two [((.c (.int .i64 15)), false), ((.t 20), false), ((.t 22), false)] false, none⟩,
 ⟨none, .st (.t 3) (.t 23) 4 false (some 3), none⟩])
 (.seq (.reg [
 ⟨some 24, .ld (.t 3) (some 4) false (some 3), none⟩,
 ⟨none, .st (.t 2) (.t 24) 4 false (some 2), none⟩])
 .ret))))))))
@[go_sem] def mk_78 : List Bool := [K0,K0,K0,K0,K0,K0,K1,K1,K1,K1,K1,K1,K1,K1,K1,K1,K1,K1,K1,K1,K1,K1,K1,K1,K1]
def billingref24_Reader_product_l1 : AC := .pre mk_78 billingref24_Reader_product_l1b
@[go_sem] theorem billingref24_Reader_product_l1_go : LoopRule billingref24_Reader_product_l1 billingref24_Reader_product_l1b mk_78 := loopRule
@[go_sem] theorem billingref24_Reader_product_l1_lp : LpRule billingref24_Reader_product_l1 billingref24_Reader_product_l1b mk_78 := lpRule
def a_billingref24_Reader_product : AF := ⟨25, (.seq (.reg [
 ⟨some 2, .newbox [(.int .i64 0), (.int .i64 0), (.str []), (.sl false 4 [])], none⟩])
 (.seq (.reg [
 ⟨some 4, .mv (.t 0), none⟩,
 ⟨some 5, .call n_billingref24_Reader_primary [((.t 4), false)] true, none⟩,
 ⟨some 3, .newbox [(.int .i64 0), (.int .i64 0), (.str []), (.sl false 4 [])], none⟩,
 ⟨none, .st (.t 3) (.t 5) 4 false (some 3), none⟩])
 (.blk 0 (.pre mk_29 (.loop billingref24_Reader_product_l1))))), [.cell 2 (some 4)]⟩

/- (*billing/parser.reader).primary -/
def a_parser_reader_primary : AF := ⟨49, (.seq (.reg [
 ⟨some 2, .newbox [(.int .i64 0), (.int .i64 0), (.str []), (.sl false 4 [])], none⟩])
 (.seq (.reg [
 ⟨some 5, .mv (.t 0), none⟩,
 ⟨some 6, .call n_parser_reader_peek [((.t 5), false)] true, none⟩,
 ⟨some 3, .newbox [(.int .i64 0), (.int .i64 0), (.int .i64 0), (.str [])], none⟩,
 ⟨none, .st (.t 3) (.t 6) 4 false (some 3), none⟩])
 (.seq (.blk 0 (.seq (.reg [
 ⟨some 8, .fa (.t 3) 0 (some 3), none⟩,
 ⟨some 9, .ld (.t 8) none false (some 3), none⟩,
 ⟨some 10, .bin .eql (.t 9) (.c (.int .i64 2)), none⟩,
 ⟨some 7, .mv (.t 10), none⟩])
 (.cond (.t 7) (.seq (.reg [
 ⟨some 11, .mv (.t 0), none⟩,
 ⟨some 12, .call n_parser_reader_number [((.t 11), false)] true, none⟩,
 ⟨some 13, .build [(.int .i64 0), (.int .i64 0), (.str []), (.sl false 4 [])] [(0, 1, (.c (.int .i64 1))), (1, 1, (.t 12))], none⟩,
 ⟨none, .st (.t 2) (.t 13) 4 false (some 2), none⟩])
 .ret)
 (.seq (.reg [
 ⟨some 15, .fa (.t 3) 0 (some 3), none⟩,
 ⟨some 16, .ld (.t 15) none false (some 3), none⟩,
 ⟨some 17, .bin .eql (.t 16) (.c (.int .i64 3)), none⟩,
 ⟨some 14, .mv (.t 17), none⟩])
 (.cond (.t 14) (.seq (.reg [
 ⟨some 18, .mv (.t 0), none⟩,
 ⟨some 19, .call n_parser_reader_skip [((.t 18), false)] true, none⟩,
 ⟨some 20, .fld (.t 19) 3 1 false, none⟩,
 ⟨some 21, .build [(.int .i64 0), (.int .i64 0), (.str []), (.sl false 4 [])] [(0, 1, (.c (.int .i64 2))), (2, 1, (.t 20))], none⟩,
 ⟨none, .st (.t 2) (.t 21) 4 false (some 2), none⟩])
 .ret)
 (.seq (.reg [
 ⟨some 23, .fa (.t 3) 0 (some 3), none⟩,
 ⟨some 24, .ld (.t 23) none false (some 3), none⟩,
 ⟨some 25, .bin .eql (.t 24) (.c (.int .i64 1)), none⟩,
 ⟨some 26, .mv (.t 25), none⟩,
 ⟨some 27, .fa (.t 3) 3 (some 3), some (26, true)⟩,
 ⟨some 28, .ld (.t 27) none false (some 3), some (26, true)⟩,
 ⟨some 29, .call n_parser_attribute [((.t 28), false)] false, some (26, true)⟩,
 ⟨some 30, .pick (.t 26) (.t 29) (.c (.bool false)), none⟩,
 ⟨some 22, .mv (.t 30), none⟩])
 (.cond (.t 22) (.seq (.reg [
 ⟨some 31, .mv (.t 0), none⟩,
 ⟨some 32, .call n_parser_reader_skip [((.t 31), false)] true, none⟩,
 ⟨some 33, .fld (.t 32) 3 1 false, none⟩,
 ⟨some 34, .build [(.int .i64 0), (.int .i64 0), (.str []), (.sl false 4 [])] [(0, 1, (.c (.int .i64 3))), (2, 1, (.t 33))], none⟩,
 ⟨none, .st (.t 2) (.t 34) 4 false (some 2), none⟩])
 .ret)
 (.seq (.reg [
 ⟨some 36, .fa (.t 3) 0 (some 3), none⟩,
 ⟨some 37, .ld (.t 36) none false (some 3), none⟩,
 ⟨some 38, .bin .eql (.t 37) (.c (.int .i64 1)), none⟩,
 ⟨some 35, .mv (.t 38), none⟩])
 (.cond (.t 35) (.seq (.reg [
 ⟨some 39, .mv (.t 0), none⟩,
 ⟨some 40, .call n_parser_reader_name [((.t 39), false)] true, none⟩,
 ⟨some 41, .build [(.int .i64 0), (.int .i64 0), (.str []), (.sl false 4 [])] [(0, 1, (.c (.int .i64 3))), (2, 1, (.t 40))], none⟩,
 ⟨none, .st (.t 2) (.t 41) 4 false (some 2), none⟩])
 .ret)
 .skip)))))))))
 (.seq (.reg [
 ⟨some 42, .mv (.t 0), none⟩,
 ⟨some 43, .call n_parser_reader_needSymbol [((.t 42), false), ((.c (.str [40])), false)] true, none⟩])
 (.seq (.reg [
 ⟨some 44, .mv (.t 0), none⟩,
 ⟨some 45, .call n_parser_reader_either [((.t 44), false)] true, none⟩,
 ⟨some 4, .newbox [(.int .i64 0), (.int .i64 0), (.str []), (.sl false 4 [])], none⟩,
 ⟨none, .st (.t 4) (.t 45) 4 false (some 4), none⟩])
 (.seq (.reg [
 ⟨some 46, .mv (.t 0), none⟩,
 ⟨some 47, .call n_parser_reader_needSymbol [((.t 46), false), ((.c (.str [41])), false)] true, none⟩])
 (.seq (.reg [
 ⟨some 48, .ld (.t 4) (some 4) false (some 4), none⟩,
 ⟨none, .st (.t 2) (.t 48) 4 false (some 2), none⟩])
 .ret))))))), [.cell 2 (some 4)]⟩

/- (*billing/billingref24.Reader).primary -/
def a_billingref24_Reader_primary : AF := ⟨53, (.seq (.reg [
 ⟨some 2, .newbox [(.int .i64 0), (.int .i64 0), (.str []), (.sl false 4 [])], none⟩])
 (.seq (.reg [
 ⟨some 5, .mv (.t 0), none⟩,
 ⟨some 6, .call n_billingref24_Reader_now [((.t 5), false)] true, none⟩,
 ⟨some 3, .newbox [(.int .i64 0), (.int .i64 0), (.int .i64 0), (.str [])], none⟩,
 ⟨none, .st (.t 3) (.t 6) 4 false (some 3), none⟩])
 (.seq (.seq (.reg [
 ⟨some 7, .mv (.t 0), none⟩,
 ⟨some 8, .nck (.t 7) none, none⟩,
 ⟨some 9, .fa (.t 8) 2 none, none⟩,
 ⟨some 10, .ld (.t 9) none false none, none⟩,
 ⟨some 11, .bin .neq (.t 10) (.c (.int .i64 0)), none⟩])
 (.cond (.t 11) (.seq (.reg [
 ⟨some 12, .build [(.int .i64 0), (.int .i64 0), (.str []), (.sl false 4 [])] [], none⟩,
 ⟨none, .st (.t 2) (.t 12) 4 false (some 2), none⟩])
 .ret)
 .skip))
 (.seq (.seq (.reg [
 ⟨some 13, .fa (.t 3) 0 (some 3), none⟩,
 ⟨some 14, .ld (.t 13) none false (some 3), none⟩,
 ⟨some 15, .bin .eql (.t 14) (.c (.int .i64 2)), none⟩])
 (.cond (.t 15) (.seq (.reg [
 ⟨some 16, .mv (.t 0), none⟩,
 ⟨some 17, .call n_billingref24_Reader_number [((.t 16), false)] true, none⟩,
 ⟨some 18, .build [(.int .i64 0), (.int .i64 0), (.str []), (.sl false 4 [])] [(0, 1, (.c (.int .i64 1))), (1, 1, (.t 17))], none⟩,
 ⟨none, .st (.t 2) (.t 18) 4 false (some 2), none⟩])
 .ret)
 .skip))
 (.seq (.seq (.reg [
 ⟨some 19, .fa (.t 3) 0 (some 3), none⟩,
 ⟨some 20, .ld (.t 19) none false (some 3), none⟩,
 ⟨some 21, .bin .eql (.t 20) (.c (.int .i64 3)), none⟩])
 (.cond (.t 21) (.seq (.reg [
 ⟨some 22, .mv (.t 0), none⟩,
 ⟨some 23, .call n_billingref24_Reader_next [((.t 22), false)] true, none⟩])
 (.seq (.reg [
 ⟨some 24, .fa (.t 3) 3 (some 3), none⟩,
 ⟨some 25, .ld (.t 24) none false (some 3), none⟩,
 ⟨some 26, .build [(.int .i64 0), (.int .i64 0), (.str []), (.sl false 4 [])] [(0, 1, (.c (.int .i64 2))), (2, 1, (.t 25))], none⟩,
 ⟨none, .st (.t 2) (.t 26) 4 false (some 2), none⟩])
 .ret))
 .skip))
 (.seq (.seq (.dreg [
 ⟨some 27, .cp (.t 0), none⟩,
 ⟨some 28, .callr n_billingref24_Reader_plain [((.t 27), false)], none⟩,
 ⟨some 29, .cp (.t 28), none⟩,
 ⟨some 30, .fa (.t 3) 0 (some 3), some (29, false)⟩,
 ⟨some 31, .ld (.t 30) none false (some 3), some (29, false)⟩,
 ⟨some 32, .bin .eql (.t 31) (.c (.int .i64 1)), some (29, false)⟩,
 ⟨some 33, .cp (.t 32), some (29, false)⟩,
 ⟨some 34, .call n_billingref24_Attributes [] false, some (33, true)⟩,
 ⟨some 35, .fa (.t 3) 3 (some 3), some (33, true)⟩,
 ⟨some 36, .ld (.t 35) none false (some 3), some (33, true)⟩,
 ⟨some 37, .call n_billingref24_Place [((.t 34), true), ((.t 36), false)] false, some (33, true)⟩,
 ⟨some 38, .bin .geq (.t 37) (.c (.int .i64 0)), some (33, true)⟩,
 ⟨some 39, .pick (.t 33) (.t 38) (.c (.bool false)), some (29, false)⟩,
 ⟨some 40, .pick (.t 29) (.c (.bool true)) (.t 39), none⟩])
 (.cond (.t 40) (.seq (.reg [
 ⟨some 41, .mv (.t 0), none⟩,
 ⟨some 42, .call n_billingref24_Reader_next [((.t 41), false)] true, none⟩])
 (.seq (.reg [
 ⟨some 43, .fa (.t 3) 3 (some 3), none⟩,
 ⟨some 44, .ld (.t 43) none false (some 3), none⟩,
 ⟨some 45, .build [(.int .i64 0), (.int .i64 0), (.str []), (.sl false 4 [])] [(0, 1, (.c (.int .i64 3))), (2, 1, (.t 44))], none⟩,
 ⟨none, .st (.t 2) (.t 45) 4 false (some 2), none⟩])
 .ret))
 .skip))
 (.seq (.reg [
 ⟨some 46, .mv (.t 0), none⟩,
 ⟨some 47, .call n_billingref24_Reader_expect [((.t 46), false), ((.c (.str [40])), false)] true, none⟩])
 (.seq (.reg [
 ⟨some 48, .mv (.t 0), none⟩,
 ⟨some 49, .call n_billingref24_Reader_expr [((.t 48), false)] true, none⟩,
 ⟨some 4, .newbox [(.int .i64 0), (.int .i64 0), (.str []), (.sl false 4 [])], none⟩,
 ⟨none, .st (.t 4) (.t 49) 4 false (some 4), none⟩])
 (.seq (.reg [
 ⟨some 50, .mv (.t 0), none⟩,
 ⟨some 51, .call n_billingref24_Reader_expect [((.t 50), false), ((.c (.str [41])), false)] true, none⟩])
 (.seq (.reg [
 ⟨some 52, .ld (.t 4) (some 4) false (some 4), none⟩,
 ⟨none, .st (.t 2) (.t 52) 4 false (some 2), none⟩])
 .ret)))))))))), [.cell 2 (some 4)]⟩

/- billing/parser.attribute -/
def a_parser_attribute : AF := ⟨14, (.seq (.reg [
 ⟨some 2, .mv (.c (.bool false)), none⟩])
 (.seq (.seq (.reg [
 ⟨some 3, .mv (.t 0), none⟩])
 (.blk 0 (.seq (.seq (.reg [
 ⟨some 5, .bin .eql (.t 3) (.c (.str [107, 105, 110, 100])), none⟩,
 ⟨some 4, .mv (.t 5), none⟩])
 (.cond (.t 4) .skip
 (.seq (.reg [
 ⟨some 6, .bin .eql (.t 3) (.c (.str [117, 110, 105, 116, 115])), none⟩,
 ⟨some 4, .mv (.t 6), none⟩])
 (.cond (.t 4) .skip
 (.seq (.reg [
 ⟨some 7, .bin .eql (.t 3) (.c (.str [119, 101, 101, 107, 100, 97, 121])), none⟩,
 ⟨some 4, .mv (.t 7), none⟩])
 (.cond (.t 4) .skip
 (.seq (.reg [
 ⟨some 8, .bin .eql (.t 3) (.c (.str [109, 105, 110, 117, 116, 101])), none⟩,
 ⟨some 4, .mv (.t 8), none⟩])
 (.cond (.t 4) .skip
 (.seq (.reg [
 ⟨some 9, .bin .eql (.t 3) (.c (.str [116, 111, 116, 97, 108])), none⟩,
 ⟨some 4, .mv (.t 9), none⟩])
 (.cond (.t 4) .skip
 (.seq (.reg [
 ⟨some 10, .bin .eql (.t 3) (.c (.str [115, 112, 101, 110, 116])), none⟩,
 ⟨some 4, .mv (.t 10), none⟩])
 (.cond (.t 4) .skip
 (.seq (.reg [
 ⟨some 11, .bin .eql (.t 3) (.c (.str [122, 111, 110, 101])), none⟩,
 ⟨some 4, .mv (.t 11), none⟩])
 (.cond (.t 4) .skip
 (.seq (.reg [
 ⟨some 12, .bin .eql (.t 3) (.c (.str [98, 97, 110, 100])), none⟩,
 ⟨some 4, .mv (.t 12), none⟩])
 (.cond (.t 4) .skip
 (.reg [
 ⟨some 13, .bin .eql (.t 3) (.c (.str [102, 97, 109, 105, 108, 121])), none⟩,
 ⟨some 4, .mv (.t 13), none⟩])))))))))))))))))
 (.cond (.t 4) (.seq (.reg [
 ⟨some 2, .mv (.c (.bool true)), none⟩])
 .ret)
 .skip))))
 (.seq (.reg [
 ⟨some 2, .mv (.c (.bool false)), none⟩])
 .ret))), [.tmp 2]⟩

/- (*billing/billingref24.Reader).number -/
def a_billingref24_Reader_number : AF := ⟨21, (.seq (.reg [
 ⟨some 2, .mv (.c (.int .i64 0)), none⟩])
 (.seq (.reg [
 ⟨some 4, .mv (.t 0), none⟩,
 ⟨some 5, .call n_billingref24_Reader_now [((.t 4), false)] true, none⟩,
 ⟨some 3, .newbox [(.int .i64 0), (.int .i64 0), (.int .i64 0), (.str [])], none⟩,
 ⟨none, .st (.t 3) (.t 5) 4 false (some 3), none⟩])
 (.seq (.seq (.reg [
 ⟨some 6, .fa (.t 3) 3 (some 3), none⟩,
 ⟨some 7, .ld (.t 6) none false (some 3), none⟩,
 ⟨some 8, .len true (.t 7) none, none⟩,
 ⟨some 9, .bin .gtr (.t 8) (.c (.int .i64 1)), none⟩,
 ⟨some 10, .mv (.t 9), none⟩,
 ⟨some 11, .fa (.t 3) 3 (some 3), some (10, true)⟩,
 ⟨some 12, .ld (.t 11) none false (some 3), some (10, true)⟩,
 ⟨some 13, .idx (.t 12) (.c (.int .i64 0)) none 1 false, some (10, true)⟩,
 ⟨some 14, .bin .eql (.t 13) (.c (.int .u8 48)), some (10, true)⟩,
 ⟨some 15, .pick (.t 10) (.t 14) (.c (.bool false)), none⟩])
 (.cond (.t 15) (.seq (.reg [
 ⟨some 16, .mv (.t 0), none⟩,
 ⟨some 17, .call n_billingref24_Reader_fail [((.t 16), false), ((.c (.int .i64 1)), false)] true, none⟩])
 (.seq (.reg [
 ⟨some 2, .mv (.c (.int .i64 0)), none⟩])
 .ret))
 .skip))
 (.seq (.reg [
 ⟨some 18, .mv (.t 0), none⟩,
 ⟨some 19, .call n_billingref24_Reader_digits [((.t 18), false), ((.c (.int .i64 0)), false), ((.c (.int .i64 9999999999999999)), false)] true, none⟩,
 ⟨some 20, .fld (.t 19) 1 1 false, none⟩,
 ⟨some 2, .mv (.t 20), none⟩])
 .ret)))), [.tmp 2]⟩

/- (*billing/billingref24.Reader).plain -/
def a_billingref24_Reader_plain : AF := ⟨22, (.seq (.reg [
 ⟨some 2, .mv (.c (.bool false)), none⟩])
 (.seq (.reg [
 ⟨some 4, .mv (.t 0), none⟩,
 ⟨some 5, .call n_billingref24_Reader_now [((.t 4), false)] true, none⟩,
 ⟨some 3, .newbox [(.int .i64 0), (.int .i64 0), (.int .i64 0), (.str [])], none⟩,
 ⟨none, .st (.t 3) (.t 5) 4 false (some 3), none⟩])
 (.seq (.reg [
 ⟨some 6, .mv (.t 0), none⟩,
 ⟨some 7, .nck (.t 6) none, none⟩,
 ⟨some 8, .fa (.t 7) 2 none, none⟩,
 ⟨some 9, .ld (.t 8) none false none, none⟩,
 ⟨some 10, .bin .eql (.t 9) (.c (.int .i64 0)), none⟩,
 ⟨some 11, .mv (.t 10), none⟩,
 ⟨some 12, .fa (.t 3) 0 (some 3), some (11, true)⟩,
 ⟨some 13, .ld (.t 12) none false (some 3), some (11, true)⟩,
 ⟨some 14, .bin .eql (.t 13) (.c (.int .i64 1)), some (11, true)⟩,
 ⟨some 15, .pick (.t 11) (.t 14) (.c (.bool false)), none⟩,
 ⟨some 16, .mv (.t 15), none⟩,
 ⟨some 17, .fa (.t 3) 3 (some 3), some (16, true)⟩,
 ⟨some 18, .ld (.t 17) none false (some 3), some (16, true)⟩,
 ⟨some 19, .call n_billingref23_Keyword [((.t 18), false)] false, some (16, true)⟩,
 ⟨some 20, .un .not (.t 19), some (16, true)⟩,
 ⟨some 21, .pick (.t 16) (.t 20) (.c (.bool false)), none⟩,
 ⟨some 2, .mv (.t 21), none⟩])
 .ret))), [.tmp 2]⟩

/- (*billing/billingref24.Reader).expect -/
def a_billingref24_Reader_expect : AF := ⟨10, (.seq (.reg [
 ⟨some 4, .mv (.t 0), none⟩,
 ⟨some 5, .mv (.t 1), none⟩,
 ⟨some 6, .call n_billingref24_Reader_accept [((.t 4), false), ((.t 5), false)] true, none⟩,
 ⟨some 7, .un .not (.t 6), none⟩])
 (.cond (.t 7) (.reg [
 ⟨some 8, .mv (.t 0), none⟩,
 ⟨some 9, .call n_billingref24_Reader_fail [((.t 8), false), ((.c (.int .i64 1)), false)] true, none⟩])
 .skip)), []⟩

/- (*billing/billingref24.Reader).digits -/
def a_billingref24_Reader_digits : AF := ⟨36, (.seq (.reg [
 ⟨some 6, .newbox [(.int .i64 0), (.int .i64 0), (.int .i64 0), (.str [])], none⟩])
 (.seq (.reg [
 ⟨some 8, .mv (.t 0), none⟩,
 ⟨some 9, .call n_billingref24_Reader_now [((.t 8), false)] true, none⟩,
 ⟨some 7, .newbox [(.int .i64 0), (.int .i64 0), (.int .i64 0), (.str [])], none⟩,
 ⟨none, .st (.t 7) (.t 9) 4 false (some 7), none⟩])
 (.seq (.seq (.reg [
 ⟨some 10, .fa (.t 7) 0 (some 7), none⟩,
 ⟨some 11, .ld (.t 10) none false (some 7), none⟩,
 ⟨some 12, .bin .neq (.t 11) (.c (.int .i64 2)), none⟩,
 ⟨some 13, .mv (.t 12), none⟩,
 ⟨some 14, .mv (.t 1), some (13, false)⟩,
 ⟨some 15, .bin .gtr (.t 14) (.c (.int .i64 0)), some (13, false)⟩,
 ⟨some 16, .mv (.t 15), some (13, false)⟩,
 ⟨some 17, .fa (.t 7) 3 (some 7), some (16, true)⟩,
 ⟨some 18, .ld (.t 17) none false (some 7), some (16, true)⟩,
 ⟨some 19, .len true (.t 18) none, some (16, true)⟩,
 ⟨some 20, .mv (.t 1), some (16, true)⟩,
 ⟨some 21, .bin .neq (.t 19) (.t 20), some (16, true)⟩,
 ⟨some 22, .pick (.t 16) (.t 21) (.c (.bool false)), some (13, false)⟩,
 ⟨some 23, .pick (.t 13) (.c (.bool true)) (.t 22), none⟩,
 ⟨some 24, .mv (.t 23), none⟩,
 ⟨some 25, .fa (.t 7) 1 (some 7), some (24, false)⟩,
 ⟨some 26, .ld (.t 25) none false (some 7), some (24, false)⟩,
 ⟨some 27, .mv (.t 2), some (24, false)⟩,
 ⟨some 28, .bin .gtr (.t 26) (.t 27), some (24, false)⟩,
 ⟨some 29, .pick (.t 24) (.c (.bool true)) (.t 28), none⟩])
 (.cond (.t 29) (.seq (.reg [
 ⟨some 30, .mv (.t 0), none⟩,
 ⟨some 31, .call n_billingref24_Reader_fail [((.t 30), false), ((.c (.int .i64 1)), false)] true, none⟩])
 (.seq (.reg [
 ⟨some 32, .build [(.int .i64 0), (.int .i64 0), (.int .i64 0), (.str [])] [], none⟩,
 ⟨none, .st (.t 6) (.t 32) 4 false (some 6), none⟩])
 .ret))
 .skip))
 (.seq (.reg [
 ⟨some 33, .mv (.t 0), none⟩,
 ⟨some 34, .call n_billingref24_Reader_next [((.t 33), false)] true, none⟩])
 (.seq (.reg [
 ⟨some 35, .ld (.t 7) (some 4) false (some 7), none⟩,
 ⟨none, .st (.t 6) (.t 35) 4 false (some 6), none⟩])
 .ret))))), [.cell 6 (some 4)]⟩
def d_parser_Tariff : AFD := ⟨29, [p1_parser_Tariff, p2_parser_Tariff, p3_parser_Tariff], 20, n_parser_Tariff_1, [.t 2, .t 3, .t 4], b_parser_Tariff, [.cell 2 (some 7), .cell 3 none, .cell 4 none], 15, 5, 3, g_parser_Tariff_1⟩
def d_parser_Expr : AFD := ⟨29, [p1_parser_Expr, p2_parser_Expr, p3_parser_Expr], 20, n_parser_Expr_1, [.t 2, .t 3, .t 4], b_parser_Expr, [.cell 2 (some 4), .cell 3 none, .cell 4 none], 15, 5, 3, g_parser_Expr_1⟩
def d_lexer_Scan : AFD := ⟨24, [p1_lexer_Scan, p2_lexer_Scan], 10, n_lexer_Scan_1, [.t 2, .t 3, .t 4], b_lexer_Scan, [.cell 2 none, .cell 3 none, .cell 4 none], 21, 6, 3, g_lexer_Scan_1⟩

def ft : FuncId → Option AF
 | 13 => some a_billinglaw24_ParserExprs
 | 28 => some a_billingref23_Scan
 | 31 => some a_billingref23_Value
 | 33 => some a_billingref23_Skip
 | 34 => some a_lexer_Quote
 | 35 => some a_lexer_Keyword
 | 36 => some a_billingref23_Keyword
 | 37 => some a_billingref23_Quote
 | 41 => some a_billinglaw24_awake
 | 42 => some a_billingref24_Expr
 | 43 => some a_billingref24_SameExpr
 | 57 => some a_parser_caught
 | 58 => some a_parser_reader_tariff
 | 59 => some a_parser_reader_end
 | 64 => some a_parser_reader_either
 | 67 => some a_lexer_scanner_next
 | 68 => some a_billingref23_token
 | 69 => some a_billingref23_Has
 | 70 => some a_billingref23_inText
 | 80 => some a_billingref24_Reader_expr
 | 81 => some a_billingref24_Reader_end
 | 82 => some a_billingref24_Reader_now
 | 96 => some a_parser_reader_needWord
 | 97 => some a_parser_reader_name
 | 98 => some a_parser_reader_date
 | 99 => some a_parser_reader_peek
 | 100 => some a_parser_reader_fixed
 | 101 => some a_parser_reader_needSymbol
 | 102 => some a_parser_reader_takeWord
 | 103 => some a_parser_reader_zone
 | 104 => some a_parser_reader_band
 | 105 => some a_parser_reader_rate
 | 106 => some a_parser_reader_discount
 | 107 => some a_parser_fail
 | 109 => some a_parser_reader_both
 | 110 => some a_parser_two
 | 113 => some a_lexer_scanner_blanks
 | 114 => some a_lexer_lower
 | 115 => some a_lexer_scanner_word
 | 116 => some a_lexer_digit
 | 117 => some a_lexer_scanner_number
 | 118 => some a_lexer_scanner_text
 | 119 => some a_lexer_scanner_symbol
 | 120 => some a_billingref23_Lower
 | 121 => some a_billingref23_word
 | 122 => some a_billingref23_Digit
 | 123 => some a_billingref23_number
 | 124 => some a_billingref23_text
 | 125 => some a_billingref23_symbol
 | 142 => some a_billingref24_Reader_both
 | 143 => some a_billingref24_Reader_accept
 | 144 => some a_billingref24_two
 | 145 => some a_billingref24_Reader_fail
 | 147 => some a_calendar_before
 | 148 => some a_calendar_days
 | 149 => some a_parser_reader_skip
 | 150 => some a_calendar_Day
 | 151 => some a_parser_reader_takeSymbol
 | 152 => some a_parser_reader_word
 | 153 => some a_parser_reader_digits
 | 154 => some a_parser_reader_slot
 | 155 => some a_parser_kind
 | 156 => some a_parser_reader_nameOrAny
 | 157 => some a_parser_reader_number
 | 158 => some a_parser_reader_step
 | 160 => some a_parser_reader_negated
 | 161 => some a_lexer_fail
 | 162 => some a_billingref23_inWord
 | 163 => some a_billingref23_Symbols
 | 170 => some a_billingref24_Place
 | 171 => some a_billingref24_Attributes
 | 172 => some a_billingref24_Reader_negated
 | 173 => some a_billingref24_Reader_is
 | 174 => some a_billingref24_Reader_next
 | 175 => some a_calendar_leap
 | 176 => some a_calendar_Length
 | 177 => some a_parser_reader_symbol
 | 178 => some a_parser_reader_day
 | 179 => some a_parser_reader_time
 | 180 => some a_parser_reader_compared
 | 181 => some a_billingref24_Reader_compared
 | 182 => some a_parser_weekday
 | 183 => some a_parser_reader_sum
 | 184 => some a_billingref24_Reader_sum
 | 185 => some a_parser_reader_product
 | 186 => some a_billingref24_Reader_product
 | 187 => some a_parser_reader_primary
 | 188 => some a_billingref24_Reader_primary
 | 189 => some a_parser_attribute
 | 190 => some a_billingref24_Reader_number
 | 191 => some a_billingref24_Reader_plain
 | 192 => some a_billingref24_Reader_expect
 | 193 => some a_billingref24_Reader_digits
 | _ => none

end Go.Am
