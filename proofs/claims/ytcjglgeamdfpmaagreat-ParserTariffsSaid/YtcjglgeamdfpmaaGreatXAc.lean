/- The functions as abstract code. -/
import Derived.Test.YtcjglgeamdfpmaaGreatXAmA
namespace Go.Am
@[go_sem] def iM (d x : Nat) : AI := ⟨some d, .mv (.t x), none⟩
@[go_sem] def iC (d x : Nat) : AI := ⟨some d, .cp (.t x), none⟩
@[go_sem] def iK (d : Nat) (v : V) : AI := ⟨some d, .mv (.c v), none⟩
@[go_sem] def iL (d x : Nat) : AI := ⟨some d, .ld (.t x) none false none, none⟩
@[go_sem] def iF (d x o : Nat) : AI := ⟨some d, .fa (.t x) o none, none⟩
@[go_sem] def iB (d : Nat) (o : BinOp) (x y : Nat) : AI := ⟨some d, .bin o (.t x) (.t y), none⟩
@[go_sem] def iI (d : Nat) (o : BinOp) (x : Nat) (n : Int) : AI := ⟨some d, .bin o (.t x) (.c (.int .i64 n)), none⟩
@[go_sem] def iO (d : Nat) (o : AOp) : AI := ⟨some d, o, none⟩
@[go_sem] def iG (d : Nat) (o : AOp) (g : Nat) (b : Bool) : AI := ⟨some d, o, some (g, b)⟩
@[go_sem] def iN (o : AOp) : AI := ⟨none, o, none⟩
@[go_sem] def iS (x : Nat) : AI := ⟨none, .cm x, none⟩
def n_billinglaw24_ParserTariffs : FuncId := 3
def n_billinglaw24_awake : FuncId := 4
def n_parser_Tariff : FuncId := 5
def n_billingref24_Tariff : FuncId := 6
def n_billingref24_SameTariff : FuncId := 7
def n_parser_Expr : FuncId := 8
def n_lexer_Scan : FuncId := 9
def n_parser_Tariff_1 : FuncId := 10
def n_parser_caught : FuncId := 11
def n_parser_reader_tariff : FuncId := 12
def n_parser_reader_end : FuncId := 13
def n_billingref23_Scan : FuncId := 14
def n_billingref24_Reader_tariff : FuncId := 15
def n_billingref24_Reader_end : FuncId := 16
def n_billingref24_Reader_now : FuncId := 17
def n_billingref24_SameTexts : FuncId := 18
def n_billingref24_SameExpr : FuncId := 19
def n_billingref24_sameBands : FuncId := 20
def n_billingref24_sameRates : FuncId := 21
def n_parser_Expr_1 : FuncId := 22
def n_parser_reader_either : FuncId := 23
def n_lexer_Scan_1 : FuncId := 24
def n_lexer_scanner_next : FuncId := 25
def n_parser_reader_needWord : FuncId := 26
def n_parser_reader_name : FuncId := 27
def n_parser_reader_date : FuncId := 28
def n_parser_reader_peek : FuncId := 29
def n_parser_reader_fixed : FuncId := 30
def n_parser_reader_needSymbol : FuncId := 31
def n_parser_reader_takeWord : FuncId := 32
def n_parser_reader_zone : FuncId := 33
def n_parser_reader_band : FuncId := 34
def n_parser_reader_rate : FuncId := 35
def n_parser_reader_discount : FuncId := 36
def n_parser_fail : FuncId := 37
def n_billingref23_Skip : FuncId := 38
def n_billingref23_token : FuncId := 39
def n_billingref24_Reader_expect : FuncId := 40
def n_billingref24_Reader_name : FuncId := 41
def n_billingref24_Reader_date : FuncId := 42
def n_billingref24_Reader_clock : FuncId := 43
def n_billingref24_Reader_accept : FuncId := 44
def n_billingref24_Reader_zone : FuncId := 45
def n_billingref24_Reader_band : FuncId := 46
def n_billingref24_Reader_rate : FuncId := 47
def n_billingref24_Reader_discount : FuncId := 48
def n_billingref24_Reader_fail : FuncId := 49
def n_billingref24_SameRate : FuncId := 50
def n_parser_reader_both : FuncId := 51
def n_parser_two : FuncId := 52
def n_lexer_scanner_blanks : FuncId := 53
def n_lexer_lower : FuncId := 54
def n_lexer_scanner_word : FuncId := 55
def n_lexer_digit : FuncId := 56
def n_lexer_scanner_number : FuncId := 57
def n_lexer_scanner_text : FuncId := 58
def n_lexer_scanner_symbol : FuncId := 59
def n_lexer_Keyword : FuncId := 60
def n_parser_reader_skip : FuncId := 61
def n_calendar_Day : FuncId := 62
def n_parser_reader_takeSymbol : FuncId := 63
def n_parser_reader_word : FuncId := 64
def n_parser_reader_digits : FuncId := 65
def n_parser_reader_slot : FuncId := 66
def n_parser_kind : FuncId := 67
def n_parser_reader_nameOrAny : FuncId := 68
def n_parser_reader_number : FuncId := 69
def n_parser_reader_step : FuncId := 70
def n_billingref23_Lower : FuncId := 71
def n_billingref23_word : FuncId := 72
def n_billingref23_Digit : FuncId := 73
def n_billingref23_number : FuncId := 74
def n_billingref23_text : FuncId := 75
def n_billingref23_symbol : FuncId := 76
def n_billingref24_Reader_plain : FuncId := 77
def n_billingref24_Reader_next : FuncId := 78
def n_billingref24_Reader_digits : FuncId := 79
def n_billingref24_Day : FuncId := 80
def n_billingref24_Reader_is : FuncId := 81
def n_billingref24_Reader_slot : FuncId := 82
def n_billingref24_Reader_word : FuncId := 83
def n_billingref24_Kinds : FuncId := 84
def n_billingref24_Reader_either : FuncId := 85
def n_billingref24_Reader_number : FuncId := 86
def n_billingref24_Reader_step : FuncId := 87
def n_billingref24_Reader_expr : FuncId := 88
def n_billingref24_SameSteps : FuncId := 89
def n_parser_reader_negated : FuncId := 90
def n_lexer_fail : FuncId := 91
def n_calendar_Length : FuncId := 92
def n_calendar_before : FuncId := 93
def n_calendar_days : FuncId := 94
def n_parser_reader_symbol : FuncId := 95
def n_parser_reader_day : FuncId := 96
def n_parser_reader_time : FuncId := 97
def n_billingref23_inWord : FuncId := 98
def n_billingref23_Value : FuncId := 99
def n_billingref23_inText : FuncId := 100
def n_billingref23_Symbols : FuncId := 101
def n_billingref23_Keyword : FuncId := 102
def n_billingref24_Length : FuncId := 103
def n_billingref24_Days : FuncId := 104
def n_billingref24_Reader_time : FuncId := 105
def n_billingref24_Place : FuncId := 106
def n_billingref24_Reader_both : FuncId := 107
def n_billingref24_two : FuncId := 108
def n_parser_reader_compared : FuncId := 109
def n_calendar_leap : FuncId := 110
def n_parser_weekday : FuncId := 111
def n_billingref23_Has : FuncId := 112
def n_billingref24_Reader_negated : FuncId := 113
def n_parser_reader_sum : FuncId := 114
def n_billingref24_Reader_compared : FuncId := 115
def n_parser_reader_product : FuncId := 116
def n_billingref24_Reader_sum : FuncId := 117
def n_parser_reader_primary : FuncId := 118
def n_billingref24_Reader_product : FuncId := 119
def n_parser_attribute : FuncId := 120
def n_billingref24_Reader_primary : FuncId := 121
def n_billingref24_Attributes : FuncId := 122
def a_billinglaw24_ParserTariffs : AF := ⟨41, (.seq (.reg [
 iK 2 (.bool false)])
 (.seq (.seq (.reg [
 iM 9 0,
 iO 10 (.len true (.t 9) none),
 iI 11 .gtr 10 1500])
 (.cond (.t 11) (.seq (.reg [
 iO 12 (.call n_billinglaw24_awake [] false),
 iM 2 12])
 .ret)
 .skip))
 (.seq (.reg [
 iM 14 0,
 iO 15 (.call n_parser_Tariff [((.t 14), false)] false),
 iM 13 15,
 iO 16 (.ext 13 0),
 iO 17 (.ext 13 1),
 iO 18 (.ext 13 2),
 iO 3 (.newbox [(.str []), (.int .i64 0), (.bool false), (.sl false 2 []), (.sl false 2 []), (.sl false 5 []), (.sl false 6 [])]),
 iN (.st (.t 3) (.t 16) 7 false (some 3)),
 iM 4 17,
 iM 5 18])
 (.seq (.reg [
 iM 20 0,
 iO 21 (.call n_billingref24_Tariff [((.t 20), false)] false),
 iM 19 21,
 iO 22 (.ext 19 0),
 iO 23 (.ext 19 1),
 iO 24 (.ext 19 2),
 iO 6 (.newbox [(.str []), (.int .i64 0), (.bool false), (.sl false 2 []), (.sl false 2 []), (.sl false 5 []), (.sl false 6 [])]),
 iN (.st (.t 6) (.t 22) 7 false (some 6)),
 iM 7 23,
 iM 8 24])
 (.seq (.reg [
 iO 25 (.ld (.t 3) (some 7) false (some 3)),
 iO 26 (.ld (.t 6) (some 7) false (some 6)),
 iO 27 (.call n_billingref24_SameTariff [((.t 25), false), ((.t 26), false)] false),
 iM 28 27,
 iG 29 (.mv (.t 4)) 28 true,
 iG 30 (.mv (.t 7)) 28 true,
 iG 31 (.bin .eql (.t 29) (.t 30)) 28 true,
 iO 32 (.pick (.t 28) (.t 31) (.c (.bool false))),
 iM 33 32,
 iG 34 (.mv (.t 5)) 33 true,
 iG 35 (.mv (.t 8)) 33 true,
 iG 36 (.bin .eql (.t 34) (.t 35)) 33 true,
 iO 37 (.pick (.t 33) (.t 36) (.c (.bool false))),
 iM 38 37,
 iG 39 (.call n_billinglaw24_awake [] false) 38 true,
 iO 40 (.pick (.t 38) (.t 39) (.c (.bool false))),
 iM 2 40])
 .ret))))), [.tmp 2]⟩
def a_billinglaw24_awake : AF := ⟨96, (.seq (.reg [
 iK 0 (.bool false)])
 (.seq (.reg [
 iO 14 (.call n_parser_Tariff [((.c (.str [116, 97, 114, 105, 102, 102, 32, 98, 97, 115, 105, 99, 32, 102, 114, 111, 109, 32, 50, 48, 48, 48, 45, 48, 49, 45, 48, 50, 59])), false)] false),
 iM 13 14,
 iO 15 (.ext 13 0),
 iO 16 (.ext 13 1),
 iO 17 (.ext 13 2),
 iO 1 (.newbox [(.str []), (.int .i64 0), (.bool false), (.sl false 2 []), (.sl false 2 []), (.sl false 5 []), (.sl false 6 [])]),
 iN (.st (.t 1) (.t 15) 7 false (some 1)),
 iM 2 16,
 iM 3 17])
 (.seq (.reg [
 iO 19 (.call n_parser_Expr [((.c (.str [117, 110, 105, 116, 115, 32, 62, 32, 54, 48])), false)] false),
 iM 18 19,
 iO 20 (.ext 18 0),
 iO 21 (.ext 18 1),
 iO 22 (.ext 18 2),
 iO 4 (.newbox [(.int .i64 0), (.int .i64 0), (.str []), (.sl false 4 [])]),
 iN (.st (.t 4) (.t 20) 4 false (some 4)),
 iM 5 21,
 iM 6 22])
 (.seq (.reg [
 iO 24 (.call n_parser_Expr [((.c (.str [49, 32, 60, 32, 50, 32, 60, 32, 51])), false)] false),
 iM 23 24,
 iO 25 (.ext 23 0),
 iO 26 (.ext 23 1),
 iO 27 (.ext 23 2),
 iO 7 (.newbox [(.int .i64 0), (.int .i64 0), (.str []), (.sl false 4 [])]),
 iN (.st (.t 7) (.t 25) 4 false (some 7)),
 iM 8 26,
 iM 9 27])
 (.seq (.reg [
 iO 29 (.call n_parser_Tariff [((.c (.str [116, 97, 114, 105, 102, 102, 32, 97, 32, 102, 114, 111, 109, 32, 50, 48, 50, 54, 45, 48, 50, 45, 51, 48, 59])), false)] false),
 iM 28 29,
 iO 30 (.ext 28 0),
 iO 31 (.ext 28 1),
 iO 32 (.ext 28 2),
 iO 10 (.newbox [(.str []), (.int .i64 0), (.bool false), (.sl false 2 []), (.sl false 2 []), (.sl false 5 []), (.sl false 6 [])]),
 iN (.st (.t 10) (.t 30) 7 false (some 10)),
 iM 11 31,
 iM 12 32])
 (.seq (.reg [
 iO 33 (.fa (.t 1) 0 (some 1)),
 iO 34 (.ld (.t 33) none false (some 1)),
 iO 35 (.bin .eql (.t 34) (.c (.str [98, 97, 115, 105, 99]))),
 iM 36 35,
 iG 37 (.fa (.t 1) 1 (some 1)) 36 true,
 iG 38 (.ld (.t 37) none false (some 1)) 36 true,
 iG 39 (.bin .eql (.t 38) (.c (.int .i64 86400))) 36 true,
 iO 40 (.pick (.t 36) (.t 39) (.c (.bool false))),
 iM 41 40,
 iG 42 (.mv (.t 2)) 41 true,
 iG 43 (.bin .eql (.t 42) (.c (.int .i64 0))) 41 true,
 iO 44 (.pick (.t 41) (.t 43) (.c (.bool false))),
 iM 45 44,
 iG 46 (.mv (.t 3)) 45 true,
 iG 47 (.bin .eql (.t 46) (.c (.int .i64 0))) 45 true,
 iO 48 (.pick (.t 45) (.t 47) (.c (.bool false))),
 iM 49 48,
 iG 50 (.mv (.t 6)) 49 true,
 iG 51 (.bin .eql (.t 50) (.c (.int .i64 0))) 49 true,
 iO 52 (.pick (.t 49) (.t 51) (.c (.bool false))),
 iM 53 52,
 iG 54 (.fa (.t 4) 0 (some 4)) 53 true,
 iG 55 (.ld (.t 54) none false (some 4)) 53 true,
 iG 56 (.bin .eql (.t 55) (.c (.int .i64 9))) 53 true,
 iO 57 (.pick (.t 53) (.t 56) (.c (.bool false))),
 iM 58 57,
 iG 59 (.fa (.t 4) 3 (some 4)) 58 true,
 iG 60 (.ld (.t 59) none false (some 4)) 58 true,
 iG 61 (.len false (.t 60) none) 58 true,
 iG 62 (.bin .eql (.t 61) (.c (.int .i64 2))) 58 true,
 iO 63 (.pick (.t 58) (.t 62) (.c (.bool false))),
 iM 64 63,
 iG 65 (.fa (.t 4) 3 (some 4)) 64 true,
 iG 66 (.ld (.t 65) none false (some 4)) 64 true,
 iG 67 (.ia (.t 66) (.c (.int .i64 0)) 4 none none) 64 true,
 iG 68 (.fa (.t 67) 1 none) 64 true,
 iG 69 (.ld (.t 68) none false none) 64 true,
 iG 70 (.bin .eql (.t 69) (.c (.int .i64 60))) 64 true,
 iO 71 (.pick (.t 64) (.t 70) (.c (.bool false))),
 iM 72 71,
 iG 73 (.fa (.t 4) 3 (some 4)) 72 true,
 iG 74 (.ld (.t 73) none false (some 4)) 72 true,
 iG 75 (.ia (.t 74) (.c (.int .i64 1)) 4 none none) 72 true,
 iG 76 (.fa (.t 75) 2 none) 72 true,
 iG 77 (.ld (.t 76) none false none) 72 true,
 iG 78 (.bin .eql (.t 77) (.c (.str [117, 110, 105, 116, 115]))) 72 true,
 iO 79 (.pick (.t 72) (.t 78) (.c (.bool false))),
 iM 80 79,
 iG 81 (.mv (.t 8)) 80 true,
 iG 82 (.bin .eql (.t 81) (.c (.int .i64 6))) 80 true,
 iO 83 (.pick (.t 80) (.t 82) (.c (.bool false))),
 iM 84 83,
 iG 85 (.mv (.t 9)) 84 true,
 iG 86 (.bin .eql (.t 85) (.c (.int .i64 1))) 84 true,
 iO 87 (.pick (.t 84) (.t 86) (.c (.bool false))),
 iM 88 87,
 iG 89 (.mv (.t 11)) 88 true,
 iG 90 (.bin .eql (.t 89) (.c (.int .i64 14))) 88 true,
 iO 91 (.pick (.t 88) (.t 90) (.c (.bool false))),
 iM 92 91,
 iG 93 (.mv (.t 12)) 92 true,
 iG 94 (.bin .eql (.t 93) (.c (.int .i64 15))) 92 true,
 iO 95 (.pick (.t 92) (.t 94) (.c (.bool false))),
 iM 0 95])
 .ret)))))), [.tmp 0]⟩
def p1_parser_Tariff : AC := (.reg [
 iO 2 (.newobj [(.str []), (.int .i64 0), (.bool false), (.sl false 2 []), (.sl false 2 []), (.sl false 5 []), (.sl false 6 [])]),
 iO 3 (.newobj [(.int .i64 0)]),
 iO 4 (.newobj [(.int .i64 0)])])
def p2_parser_Tariff : AC := (.reg [
 iM 10 0,
 iO 11 (.call n_lexer_Scan [((.t 10), false)] false),
 iM 9 11,
 iO 12 (.ext 9 0),
 iS 12,
 iO 13 (.ext 9 1),
 iO 14 (.ext 9 2),
 iM 5 12,
 iS 5,
 iM 6 13,
 iM 7 14])
def p3_parser_Tariff : AC := (.seq (.reg [
 iM 15 7,
 iI 16 .neq 15 0])
 (.cond (.t 16) (.seq (.reg [
 iO 17 (.build [(.str []), (.int .i64 0), (.bool false), (.sl false 2 []), (.sl false 2 []), (.sl false 5 []), (.sl false 6 [])] []),
 iM 18 6,
 iM 19 7,
 iN (.st (.t 2) (.t 17) 7 false none),
 iN (.st (.t 3) (.t 18) 1 false none),
 iN (.st (.t 4) (.t 19) 1 false none)])
 .ret)
 .skip))
def b_parser_Tariff : AC := (.seq (.reg [
 iS 5,
 iC 21 5,
 iS 21,
 iO 22 (.build [(.sl false 4 []), (.int .i64 0)] [(0, 1, (.t 21))]),
 iO 23 (.boxo (.t 22)),
 iM 8 23])
 (.seq (.reg [
 iM 24 8,
 iO 25 (.call n_parser_reader_tariff [((.t 24), false)] true),
 iN (.st (.t 2) (.t 25) 7 false none)])
 (.seq (.reg [
 iM 26 8,
 iO 27 (.call n_parser_reader_end [((.t 26), false)] true)])
 (.seq (.reg [
 iO 28 (.ld (.t 2) (some 7) false none),
 iN (.st (.t 2) (.t 28) 7 false none),
 iN (.st (.t 3) (.c (.int .i64 0)) 1 false none),
 iN (.st (.t 4) (.c (.int .i64 0)) 1 false none)])
 .ret))))
def a_billingref24_Tariff : AF := ⟨42, (.seq (.reg [
 iO 2 (.newbox [(.str []), (.int .i64 0), (.bool false), (.sl false 2 []), (.sl false 2 []), (.sl false 5 []), (.sl false 6 [])]),
 iK 3 (.int .i64 0),
 iK 4 (.int .i64 0)])
 (.seq (.reg [
 iM 11 0,
 iO 12 (.call n_billingref23_Scan [((.t 11), false)] false),
 iM 10 12,
 iO 13 (.ext 10 0),
 iS 13,
 iO 14 (.ext 10 1),
 iO 15 (.ext 10 2),
 iM 5 13,
 iS 5,
 iM 6 14,
 iM 7 15])
 (.seq (.seq (.reg [
 iM 16 7,
 iI 17 .neq 16 0])
 (.cond (.t 17) (.seq (.reg [
 iO 18 (.build [(.str []), (.int .i64 0), (.bool false), (.sl false 2 []), (.sl false 2 []), (.sl false 5 []), (.sl false 6 [])] []),
 iM 19 6,
 iM 20 7,
 iN (.st (.t 2) (.t 18) 7 false (some 2)),
 iM 3 19,
 iM 4 20])
 .ret)
 .skip))
 (.seq (.reg [
 iS 5,
 iC 21 5,
 iS 21,
 iO 22 (.build [(.sl false 4 []), (.int .i64 0), (.int .i64 0)] [(0, 1, (.t 21))]),
 iO 23 (.boxo (.t 22)),
 iM 8 23])
 (.seq (.reg [
 iM 24 8,
 iO 25 (.call n_billingref24_Reader_tariff [((.t 24), false)] true),
 iO 9 (.newbox [(.str []), (.int .i64 0), (.bool false), (.sl false 2 []), (.sl false 2 []), (.sl false 5 []), (.sl false 6 [])]),
 iN (.st (.t 9) (.t 25) 7 false (some 9))])
 (.seq (.reg [
 iM 26 8,
 iO 27 (.call n_billingref24_Reader_end [((.t 26), false)] true)])
 (.seq (.seq (.reg [
 iM 28 8,
 iO 29 (.nck (.t 28) none),
 iF 30 29 2,
 iL 31 30,
 iI 32 .neq 31 0])
 (.cond (.t 32) (.seq (.dreg [
 iO 33 (.build [(.str []), (.int .i64 0), (.bool false), (.sl false 2 []), (.sl false 2 []), (.sl false 5 []), (.sl false 6 [])] []),
 iC 34 8,
 iO 35 (.callr n_billingref24_Reader_now [((.t 34), false)]),
 iO 36 (.fld (.t 35) 2 1 false),
 iC 37 8,
 iO 38 (.nck (.t 37) none),
 iF 39 38 2,
 iL 40 39,
 iN (.st (.t 2) (.t 33) 7 false (some 2)),
 iC 3 36,
 iC 4 40])
 .ret)
 .skip))
 (.seq (.reg [
 iO 41 (.ld (.t 9) (some 7) false (some 9)),
 iN (.st (.t 2) (.t 41) 7 false (some 2)),
 iK 3 (.int .i64 0),
 iK 4 (.int .i64 0)])
 .ret)))))))), [.cell 2 (some 7), .tmp 3, .tmp 4]⟩
@[go_sem] def mk_1 : List Bool := [K1,K1,K0,K0,K0,K0,K0,K1,K1,K1,K1,K1,K1,K1,K1,K1,K1,K1,K1,K1,K1,K1,K1,K1,K1,K1,K1,K1,K1,K1,K1,K1,K1,K1,K1,K1,K1,K1,K1,K1,K1,K1,K1,K1]
@[go_sem] def mk_2 : List Bool := [K0,K0,K0,K0,K1,K0,K1,K0,K0,K0,K0,K0,K0,K0,K0,K0,K0,K0,K0,K0,K0,K0,K0,K0,K0,K0,K0,K0,K0,K0,K0,K0,K0,K0,K0,K0,K0,K0,K0,K0,K0,K0,K0,K0,K0,K0,K0,K0,K0,K0,K0,K0,K0,K0,K0,K0,K0,K0,K0,K0,K0,K0,K0,K0,K0,K0,K0,K0,K0,K0,K0,K0,K0,K0,K0,K0,K0,K0,K0,K0,K1,K1,K1,K1,K1,K1,K1,K1,K1,K1,K1,K1,K1,K1,K1,K1,K1,K1,K1,K1,K1,K1,K1,K1,K1,K1,K1,K1,K1,K1,K1,K1,K1,K1,K1,K1,K1,K1,K1,K1,K1,K1,K1,K1,K1,K1,K1,K1,K1,K1,K1]
@[go_sem] def mk_3 : List Bool := [K1,K1,K0,K0,K1,K1,K0,K1,K1,K1,K1,K1,K1,K1,K1,K1,K1,K1,K1,K1,K1,K1,K1,K1,K1,K1,K1,K1,K1,K1,K1,K1,K1,K1,K1,K1,K1,K1,K1,K1,K1,K1,K1,K1,K1,K1,K1,K1,K1,K1,K1,K1,K1,K1,K1,K1,K1,K1,K1,K1,K1,K1,K1,K1,K1,K1,K1,K1,K1,K1,K1,K1,K1,K1,K1,K1,K1,K1,K1,K1]
def billingref24_SameTariff_l1b : AC := (.seq (.seq (.reg [
 iM 44 5,
 iF 45 2 3,
 iL 46 45,
 iO 47 (.len false (.t 46) none),
 iB 48 .lss 44 47])
 (.cond (.t 48) .skip
 (.exit 0)))
 (.seq (.blk 1 (.seq (.dreg [
 iF 51 2 3,
 iL 52 51,
 iC 53 5,
 iO 54 (.ia (.t 52) (.t 53) 2 none none),
 iF 55 54 0,
 iL 56 55,
 iF 57 3 3,
 iL 58 57,
 iC 59 5,
 iO 60 (.ia (.t 58) (.t 59) 2 none none),
 iF 61 60 0,
 iL 62 61,
 iB 63 .neq 56 62,
 iC 64 63,
 iG 65 (.fa (.t 2) 3 none) 64 false,
 iG 66 (.ld (.t 65) none false none) 64 false,
 iG 67 (.cp (.t 5)) 64 false,
 iG 68 (.ia (.t 66) (.t 67) 2 none none) 64 false,
 iG 69 (.fa (.t 68) 1 none) 64 false,
 iG 70 (.ld (.t 69) none false none) 64 false,
 iG 71 (.fa (.t 3) 3 none) 64 false,
 iG 72 (.ld (.t 71) none false none) 64 false,
 iG 73 (.cp (.t 5)) 64 false,
 iG 74 (.ia (.t 72) (.t 73) 2 none none) 64 false,
 iG 75 (.fa (.t 74) 1 none) 64 false,
 iG 76 (.ld (.t 75) none false none) 64 false,
 iG 77 (.call n_billingref24_SameTexts [((.t 70), false), ((.t 76), false)] false) 64 false,
 iG 78 (.un .not (.t 77)) 64 false,
 iO 79 (.pick (.t 64) (.c (.bool true)) (.t 78))])
 (.cond (.t 79) (.seq (.reg [
 iK 4 (.bool false)])
 .ret)
 .skip)))
 (.reg [
 iM 49 5,
 iI 50 .add 49 1,
 iM 5 50])))
@[go_sem] def mk_4 : List Bool := [K0,K0,K0,K0,K1,K0,K0,K0,K0,K0,K0,K0,K0,K0,K0,K0,K0,K0,K0,K0,K0,K0,K0,K0,K0,K0,K0,K0,K0,K0,K0,K0,K0,K0,K0,K0,K0,K0,K0,K0,K0,K0,K0,K0,K1,K1,K1,K1,K1,K1,K1,K1,K1,K1,K1,K1,K1,K1,K1,K1,K1,K1,K1,K1,K1,K1,K1,K1,K1,K1,K1,K1,K1,K1,K1,K1,K1,K1,K1,K1]
def billingref24_SameTariff_l1 : AC := .pre mk_4 billingref24_SameTariff_l1b
@[go_sem] theorem billingref24_SameTariff_l1_go : LoopRule billingref24_SameTariff_l1 billingref24_SameTariff_l1b mk_4 := loopRule
@[go_sem] theorem billingref24_SameTariff_l1_lp : LpRule billingref24_SameTariff_l1 billingref24_SameTariff_l1b mk_4 := lpRule
def billingref24_SameTariff_l2b : AC := (.seq (.seq (.reg [
 iM 80 6,
 iF 81 2 6,
 iL 82 81,
 iO 83 (.len false (.t 82) none),
 iB 84 .lss 80 83])
 (.cond (.t 84) .skip
 (.exit 2)))
 (.seq (.blk 3 (.seq (.dreg [
 iF 87 2 6,
 iL 88 87,
 iC 89 6,
 iO 90 (.ia (.t 88) (.t 89) 6 none none),
 iF 91 90 0,
 iL 92 91,
 iF 93 3 6,
 iL 94 93,
 iC 95 6,
 iO 96 (.ia (.t 94) (.t 95) 6 none none),
 iF 97 96 0,
 iL 98 97,
 iB 99 .neq 92 98,
 iC 100 99,
 iG 101 (.fa (.t 2) 6 none) 100 false,
 iG 102 (.ld (.t 101) none false none) 100 false,
 iG 103 (.cp (.t 6)) 100 false,
 iG 104 (.ia (.t 102) (.t 103) 6 none none) 100 false,
 iG 105 (.fa (.t 104) 5 none) 100 false,
 iG 106 (.ld (.t 105) none false none) 100 false,
 iG 107 (.fa (.t 3) 6 none) 100 false,
 iG 108 (.ld (.t 107) none false none) 100 false,
 iG 109 (.cp (.t 6)) 100 false,
 iG 110 (.ia (.t 108) (.t 109) 6 none none) 100 false,
 iG 111 (.fa (.t 110) 5 none) 100 false,
 iG 112 (.ld (.t 111) none false none) 100 false,
 iG 113 (.bin .neq (.t 106) (.t 112)) 100 false,
 iO 114 (.pick (.t 100) (.c (.bool true)) (.t 113)),
 iC 115 114,
 iG 116 (.fa (.t 2) 6 none) 115 false,
 iG 117 (.ld (.t 116) none false none) 115 false,
 iG 118 (.cp (.t 6)) 115 false,
 iG 119 (.ia (.t 117) (.t 118) 6 none none) 115 false,
 iG 120 (.fa (.t 119) 1 none) 115 false,
 iG 121 (.ld (.t 120) (some 4) false none) 115 false,
 iG 122 (.fa (.t 3) 6 none) 115 false,
 iG 123 (.ld (.t 122) none false none) 115 false,
 iG 124 (.cp (.t 6)) 115 false,
 iG 125 (.ia (.t 123) (.t 124) 6 none none) 115 false,
 iG 126 (.fa (.t 125) 1 none) 115 false,
 iG 127 (.ld (.t 126) (some 4) false none) 115 false,
 iG 128 (.call n_billingref24_SameExpr [((.t 121), false), ((.t 127), false)] false) 115 false,
 iG 129 (.un .not (.t 128)) 115 false,
 iO 130 (.pick (.t 115) (.c (.bool true)) (.t 129))])
 (.cond (.t 130) (.seq (.reg [
 iK 4 (.bool false)])
 .ret)
 .skip)))
 (.reg [
 iM 85 6,
 iI 86 .add 85 1,
 iM 6 86])))
@[go_sem] def mk_5 : List Bool := [K0,K0,K0,K0,K1,K0,K0,K0,K0,K0,K0,K0,K0,K0,K0,K0,K0,K0,K0,K0,K0,K0,K0,K0,K0,K0,K0,K0,K0,K0,K0,K0,K0,K0,K0,K0,K0,K0,K0,K0,K0,K0,K0,K0,K0,K0,K0,K0,K0,K0,K0,K0,K0,K0,K0,K0,K0,K0,K0,K0,K0,K0,K0,K0,K0,K0,K0,K0,K0,K0,K0,K0,K0,K0,K0,K0,K0,K0,K0,K0,K1,K1,K1,K1,K1,K1,K1,K1,K1,K1,K1,K1,K1,K1,K1,K1,K1,K1,K1,K1,K1,K1,K1,K1,K1,K1,K1,K1,K1,K1,K1,K1,K1,K1,K1,K1,K1,K1,K1,K1,K1,K1,K1,K1,K1,K1,K1,K1,K1,K1,K1]
def billingref24_SameTariff_l2 : AC := .pre mk_5 billingref24_SameTariff_l2b
@[go_sem] theorem billingref24_SameTariff_l2_go : LoopRule billingref24_SameTariff_l2 billingref24_SameTariff_l2b mk_5 := loopRule
@[go_sem] theorem billingref24_SameTariff_l2_lp : LpRule billingref24_SameTariff_l2 billingref24_SameTariff_l2b mk_5 := lpRule
def billingref24_SameTariff_k1b : AC := (.seq (.reg [
 iF 131 2 4,
 iL 132 131,
 iF 133 3 4,
 iL 134 133,
 iO 135 (.call n_billingref24_sameBands [((.t 132), false), ((.t 134), false)] false),
 iM 136 135,
 iG 137 (.fa (.t 2) 5 none) 136 true,
 iG 138 (.ld (.t 137) none false none) 136 true,
 iG 139 (.fa (.t 3) 5 none) 136 true,
 iG 140 (.ld (.t 139) none false none) 136 true,
 iG 141 (.call n_billingref24_sameRates [((.t 138), false), ((.t 140), false)] false) 136 true,
 iO 142 (.pick (.t 136) (.t 141) (.c (.bool false))),
 iM 4 142])
 .ret)
def billingref24_SameTariff_k1 : AC := .pre mk_2 billingref24_SameTariff_k1b
def billingref24_SameTariff_k2b : AC := (.seq (.seq (.reg [
 iK 6 (.int .i64 0)])
 (.blk 2 (.loop billingref24_SameTariff_l2)))
 billingref24_SameTariff_k1)
def billingref24_SameTariff_k2 : AC := .pre mk_3 billingref24_SameTariff_k2b
def a_billingref24_SameTariff : AF := ⟨143, (.seq (.reg [
 iO 2 (.boxr (.t 0)),
 iO 3 (.boxr (.t 1)),
 iK 4 (.bool false)])
 (.seq (.seq (.reg [
 iF 7 2 0,
 iL 8 7,
 iF 9 3 0,
 iL 10 9,
 iB 11 .neq 8 10,
 iM 12 11,
 iG 13 (.fa (.t 2) 1 none) 12 false,
 iG 14 (.ld (.t 13) none false none) 12 false,
 iG 15 (.fa (.t 3) 1 none) 12 false,
 iG 16 (.ld (.t 15) none false none) 12 false,
 iG 17 (.bin .neq (.t 14) (.t 16)) 12 false,
 iO 18 (.pick (.t 12) (.c (.bool true)) (.t 17)),
 iM 19 18,
 iG 20 (.fa (.t 2) 2 none) 19 false,
 iG 21 (.ld (.t 20) none false none) 19 false,
 iG 22 (.fa (.t 3) 2 none) 19 false,
 iG 23 (.ld (.t 22) none false none) 19 false,
 iG 24 (.beq true (.t 21) (.t 23)) 19 false,
 iO 25 (.pick (.t 19) (.c (.bool true)) (.t 24)),
 iM 26 25,
 iG 27 (.fa (.t 2) 3 none) 26 false,
 iG 28 (.ld (.t 27) none false none) 26 false,
 iG 29 (.len false (.t 28) none) 26 false,
 iG 30 (.fa (.t 3) 3 none) 26 false,
 iG 31 (.ld (.t 30) none false none) 26 false,
 iG 32 (.len false (.t 31) none) 26 false,
 iG 33 (.bin .neq (.t 29) (.t 32)) 26 false,
 iO 34 (.pick (.t 26) (.c (.bool true)) (.t 33)),
 iM 35 34,
 iG 36 (.fa (.t 2) 6 none) 35 false,
 iG 37 (.ld (.t 36) none false none) 35 false,
 iG 38 (.len false (.t 37) none) 35 false,
 iG 39 (.fa (.t 3) 6 none) 35 false,
 iG 40 (.ld (.t 39) none false none) 35 false,
 iG 41 (.len false (.t 40) none) 35 false,
 iG 42 (.bin .neq (.t 38) (.t 41)) 35 false,
 iO 43 (.pick (.t 35) (.c (.bool true)) (.t 42))])
 (.cond (.t 43) (.seq (.reg [
 iK 4 (.bool false)])
 .ret)
 .skip))
 (.seq (.seq (.reg [
 iK 5 (.int .i64 0)])
 (.blk 0 (.pre mk_1 (.loop billingref24_SameTariff_l1))))
 billingref24_SameTariff_k2))), [.tmp 4]⟩
def p1_parser_Expr : AC := (.reg [
 iO 2 (.newobj [(.int .i64 0), (.int .i64 0), (.str []), (.sl false 4 [])]),
 iO 3 (.newobj [(.int .i64 0)]),
 iO 4 (.newobj [(.int .i64 0)])])
def p2_parser_Expr : AC := (.reg [
 iM 10 0,
 iO 11 (.call n_lexer_Scan [((.t 10), false)] false),
 iM 9 11,
 iO 12 (.ext 9 0),
 iS 12,
 iO 13 (.ext 9 1),
 iO 14 (.ext 9 2),
 iM 5 12,
 iS 5,
 iM 6 13,
 iM 7 14])
def p3_parser_Expr : AC := (.seq (.reg [
 iM 15 7,
 iI 16 .neq 15 0])
 (.cond (.t 16) (.seq (.reg [
 iO 17 (.build [(.int .i64 0), (.int .i64 0), (.str []), (.sl false 4 [])] []),
 iM 18 6,
 iM 19 7,
 iN (.st (.t 2) (.t 17) 4 false none),
 iN (.st (.t 3) (.t 18) 1 false none),
 iN (.st (.t 4) (.t 19) 1 false none)])
 .ret)
 .skip))
def b_parser_Expr : AC := (.seq (.reg [
 iS 5,
 iC 21 5,
 iS 21,
 iO 22 (.build [(.sl false 4 []), (.int .i64 0)] [(0, 1, (.t 21))]),
 iO 23 (.boxo (.t 22)),
 iM 8 23])
 (.seq (.reg [
 iM 24 8,
 iO 25 (.call n_parser_reader_either [((.t 24), false)] true),
 iN (.st (.t 2) (.t 25) 4 false none)])
 (.seq (.reg [
 iM 26 8,
 iO 27 (.call n_parser_reader_end [((.t 26), false)] true)])
 (.seq (.reg [
 iO 28 (.ld (.t 2) (some 4) false none),
 iN (.st (.t 2) (.t 28) 4 false none),
 iN (.st (.t 3) (.c (.int .i64 0)) 1 false none),
 iN (.st (.t 4) (.c (.int .i64 0)) 1 false none)])
 .ret))))
@[go_sem] def mk_6 : List Bool := [K1,K0,K0,K0,K0,K0,K0,K1,K1,K1,K1,K1,K1,K1]
def lexer_Scan_l1b : AC := (.blk 1 (.seq (.reg [
 iM 14 5,
 iO 15 (.call n_lexer_scanner_next [((.t 14), false)] true),
 iO 6 (.newbox [(.int .i64 0), (.int .i64 0), (.int .i64 0), (.str [])]),
 iN (.st (.t 6) (.t 15) 4 false (some 6))])
 (.seq (.reg [
 iO 16 (.ld (.t 2) none true none),
 iO 17 (.ld (.t 6) (some 4) false (some 6)),
 iO 18 (.bsl 4 1 (.agg [(.int .i64 0), (.int .i64 0), (.int .i64 0), (.str [])]) [(0, (.t 17))]),
 iO 19 (.app 4 40 (.t 16) (.t 18) none),
 iN (.st (.t 2) (.t 19) 1 true none)])
 (.seq (.reg [
 iO 20 (.fa (.t 6) 0 (some 6)),
 iO 21 (.ld (.t 20) none false (some 6)),
 iI 22 .eql 21 0])
 (.cond (.t 22) (.seq (.reg [
 iN (.cmh (.t 2)),
 iL 23 2,
 iN (.st (.t 2) (.t 23) 1 false none),
 iN (.st (.t 3) (.c (.int .i64 0)) 1 false none),
 iN (.st (.t 4) (.c (.int .i64 0)) 1 false none)])
 .ret)
 .skip)))))
@[go_sem] def mk_7 : List Bool := [K0,K0,K0,K0,K0,K0,K1,K0,K0,K0,K0,K0,K0,K0,K1,K1,K1,K1,K1,K1,K1,K1,K1,K1]
def lexer_Scan_l1 : AC := .pre mk_7 lexer_Scan_l1b
@[go_sem] theorem lexer_Scan_l1_go : LoopRule lexer_Scan_l1 lexer_Scan_l1b mk_7 := loopRule
@[go_sem] theorem lexer_Scan_l1_lp : LpRule lexer_Scan_l1 lexer_Scan_l1b mk_7 := lpRule
def p1_lexer_Scan : AC := (.reg [
 iO 2 (.newobj [(.sl true 4 [])]),
 iO 3 (.newobj [(.int .i64 0)]),
 iO 4 (.newobj [(.int .i64 0)])])
def p2_lexer_Scan : AC := (.seq (.reg [
 iM 7 0,
 iO 8 (.len true (.t 7) none),
 iI 9 .gtr 8 65536])
 (.cond (.t 9) (.seq (.reg [
 iN (.st (.t 2) (.c (.sl false 4 [])) 1 false none),
 iN (.st (.t 3) (.c (.int .i64 0)) 1 false none),
 iN (.st (.t 4) (.c (.int .i64 5)) 1 false none)])
 .ret)
 .skip))
def b_lexer_Scan : AC := (.seq (.reg [
 iM 11 0,
 iO 12 (.build [(.str []), (.int .i64 0)] [(0, 1, (.t 11))]),
 iO 13 (.boxo (.t 12)),
 iM 5 13])
 (.blk 0 (.pre mk_6 (.loop lexer_Scan_l1))))
def g_parser_Tariff_1 : AC := (.seq (.reg [
 iM 6 3,
 iO 7 (.un .plus (.t 6))])
 (.cond (.t 7) (.seq (.reg [
 iM 8 3,
 iO 9 (.call n_parser_caught [((.t 8), false)] false),
 iO 4 (.newbox [(.int .i64 0), (.int .i64 0)]),
 iN (.st (.t 4) (.t 9) 2 false (some 4))])
 (.dreg [
 iO 10 (.build [(.str []), (.int .i64 0), (.bool false), (.sl false 2 []), (.sl false 2 []), (.sl false 5 []), (.sl false 6 [])] []),
 iO 11 (.fa (.t 4) 0 (some 4)),
 iO 12 (.ld (.t 11) none false (some 4)),
 iO 13 (.fa (.t 4) 1 (some 4)),
 iO 14 (.ld (.t 13) none false (some 4)),
 iN (.st (.t 0) (.t 10) 7 false none),
 iN (.st (.t 1) (.t 12) 1 false none),
 iN (.st (.t 2) (.t 14) 1 false none)]))
 .skip))
def a_parser_caught : AF := ⟨14, (.seq (.reg [
 iO 2 (.newbox [(.int .i64 0), (.int .i64 0)])])
 (.seq (.reg [
 iM 6 0,
 iO 7 (.tas (.t 6) 43 true (.agg [(.int .i64 0), (.int .i64 0)])),
 iM 5 7,
 iO 8 (.ext 5 0),
 iO 9 (.ext 5 1),
 iO 3 (.newbox [(.int .i64 0), (.int .i64 0)]),
 iN (.st (.t 3) (.t 8) 2 false (some 3)),
 iM 4 9])
 (.seq (.seq (.reg [
 iM 10 4,
 iO 11 (.un .not (.t 10))])
 (.cond (.t 11) (.seq (.reg [
 iO 12 (.build [(.int .i64 0), (.int .i64 0)] [(0, 1, (.c (.int .i64 0))), (1, 1, (.c (.int .i64 1)))]),
 iN (.st (.t 2) (.t 12) 2 false (some 2))])
 .ret)
 .skip))
 (.seq (.reg [
 iO 13 (.ld (.t 3) (some 2) false (some 3)),
 iN (.st (.t 2) (.t 13) 2 false (some 2))])
 .ret)))), [.cell 2 (some 2)]⟩
@[go_sem] def mk_8 : List Bool := [K0,K0,K0,K0,K1,K1,K1,K1,K1,K1,K1,K1,K1,K1,K1,K1,K1,K1,K1,K1,K1,K1,K1,K1,K1,K1,K1,K1,K1,K1,K1,K1,K1,K1,K1,K1,K1,K1,K1,K1,K1,K1,K1,K1,K1]
@[go_sem] def mk_9 : List Bool := [K1,K0,K0,K0,K0,K0,K0,K0,K0,K0,K0,K0,K0,K0,K0,K0,K0,K0,K0,K0,K0,K0,K0,K0,K0,K0,K0,K0,K0,K0,K0,K0,K0,K0,K0,K0,K0,K0,K0,K0,K0,K0,K0,K0,K0,K0,K0,K0,K0,K0,K0,K0,K0,K0,K0,K0,K0,K0,K0,K0,K0,K0,K0,K0,K0,K0,K0,K0,K0,K0,K0,K0,K1,K1,K1,K1,K1,K1,K1,K1,K1]
@[go_sem] def mk_10 : List Bool := [K0,K0,K0,K0,K0,K0,K0,K0,K0,K0,K0,K0,K0,K0,K0,K0,K0,K0,K0,K0,K0,K0,K0,K0,K0,K0,K0,K0,K0,K0,K0,K0,K0,K0,K0,K0,K0,K0,K0,K0,K0,K0,K0,K0,K0,K0,K0,K0,K0,K0,K0,K0,K0,K0,K0,K0,K0,K0,K0,K0,K0,K0,K0,K1,K1,K1,K1,K1,K1,K1,K1,K1]
@[go_sem] def mk_11 : List Bool := [K0,K0,K0,K0,K0,K0,K0,K0,K0,K0,K0,K0,K0,K0,K0,K0,K0,K0,K0,K0,K0,K0,K0,K0,K0,K0,K0,K0,K0,K0,K0,K0,K0,K0,K0,K0,K0,K0,K0,K0,K0,K0,K0,K0,K0,K0,K0,K0,K0,K0,K0,K0,K0,K0,K1,K1,K1,K1,K1,K1,K1,K1,K1]
@[go_sem] def mk_12 : List Bool := [K0,K0,K0,K0,K1,K1,K1,K1,K1,K1,K1,K1,K1,K1,K1,K1,K1,K1,K1,K1,K1,K1,K1,K1,K1,K1,K1,K1,K1,K1,K1,K1,K1,K1,K1,K1,K1,K1,K1,K1,K1,K1,K1,K1,K1,K1,K1,K1,K1,K1,K1,K1,K1,K1]
def parser_reader_tariff_l1b : AC := (.seq (.seq (.reg [
 iM 45 0,
 iO 46 (.call n_parser_reader_takeWord [((.t 45), false), ((.c (.str [122, 111, 110, 101])), false)] true)])
 (.cond (.t 46) .skip
 (.exit 0)))
 (.blk 1 (.preg [
 iO 47 (.fa (.t 3) 3 (some 3)),
 iO 48 (.ld (.t 47) none true (some 3)),
 iC 49 0,
 iO 50 (.call n_parser_reader_zone [((.t 49), false)] true),
 iO 51 (.bsl 2 1 (.agg [(.str []), (.sl false 1 [])]) [(0, (.t 50))]),
 iO 52 (.app 2 40 (.t 48) (.t 51) none),
 iO 53 (.fa (.t 3) 3 (some 3)),
 iN (.st (.t 53) (.t 52) 1 true (some 3))])))
@[go_sem] def mk_13 : List Bool := [K0,K0,K0,K0,K0,K0,K0,K0,K0,K0,K0,K0,K0,K0,K0,K0,K0,K0,K0,K0,K0,K0,K0,K0,K0,K0,K0,K0,K0,K0,K0,K0,K0,K0,K0,K0,K0,K0,K0,K0,K0,K0,K0,K0,K0,K1,K1,K1,K1,K1,K1,K1,K1,K1]
def parser_reader_tariff_l1 : AC := .pre mk_13 parser_reader_tariff_l1b
@[go_sem] theorem parser_reader_tariff_l1_go : LoopRule parser_reader_tariff_l1 parser_reader_tariff_l1b mk_13 := loopRule
@[go_sem] theorem parser_reader_tariff_l1_lp : LpRule parser_reader_tariff_l1 parser_reader_tariff_l1b mk_13 := lpRule
def parser_reader_tariff_l2b : AC := (.seq (.seq (.reg [
 iM 54 0,
 iO 55 (.call n_parser_reader_takeWord [((.t 54), false), ((.c (.str [98, 97, 110, 100])), false)] true)])
 (.cond (.t 55) .skip
 (.exit 2)))
 (.blk 3 (.preg [
 iO 56 (.fa (.t 3) 4 (some 3)),
 iO 57 (.ld (.t 56) none true (some 3)),
 iC 58 0,
 iO 59 (.call n_parser_reader_band [((.t 58), false)] true),
 iO 60 (.bsl 2 1 (.agg [(.str []), (.sl false 3 [])]) [(0, (.t 59))]),
 iO 61 (.app 2 40 (.t 57) (.t 60) none),
 iO 62 (.fa (.t 3) 4 (some 3)),
 iN (.st (.t 62) (.t 61) 1 true (some 3))])))
def parser_reader_tariff_l2 : AC := .pre mk_11 parser_reader_tariff_l2b
@[go_sem] theorem parser_reader_tariff_l2_go : LoopRule parser_reader_tariff_l2 parser_reader_tariff_l2b mk_11 := loopRule
@[go_sem] theorem parser_reader_tariff_l2_lp : LpRule parser_reader_tariff_l2 parser_reader_tariff_l2b mk_11 := lpRule
def parser_reader_tariff_l3b : AC := (.seq (.seq (.reg [
 iM 63 0,
 iO 64 (.call n_parser_reader_takeWord [((.t 63), false), ((.c (.str [114, 97, 116, 101])), false)] true)])
 (.cond (.t 64) .skip
 (.exit 4)))
 (.blk 5 (.preg [
 iO 65 (.fa (.t 3) 5 (some 3)),
 iO 66 (.ld (.t 65) none true (some 3)),
 iC 67 0,
 iO 68 (.call n_parser_reader_rate [((.t 67), false)] true),
 iO 69 (.bsl 5 1 (.agg [(.int .i64 0), (.str []), (.str []), (.int .i64 0), (.sl false 3 [])]) [(0, (.t 68))]),
 iO 70 (.app 5 72 (.t 66) (.t 69) none),
 iO 71 (.fa (.t 3) 5 (some 3)),
 iN (.st (.t 71) (.t 70) 1 true (some 3))])))
def parser_reader_tariff_l3 : AC := .pre mk_10 parser_reader_tariff_l3b
@[go_sem] theorem parser_reader_tariff_l3_go : LoopRule parser_reader_tariff_l3 parser_reader_tariff_l3b mk_10 := loopRule
@[go_sem] theorem parser_reader_tariff_l3_lp : LpRule parser_reader_tariff_l3 parser_reader_tariff_l3b mk_10 := lpRule
def parser_reader_tariff_l4b : AC := (.seq (.seq (.reg [
 iM 72 0,
 iO 73 (.call n_parser_reader_takeWord [((.t 72), false), ((.c (.str [100, 105, 115, 99, 111, 117, 110, 116])), false)] true)])
 (.cond (.t 73) .skip
 (.exit 6)))
 (.blk 7 (.preg [
 iO 74 (.fa (.t 3) 6 (some 3)),
 iO 75 (.ld (.t 74) none true (some 3)),
 iC 76 0,
 iO 77 (.call n_parser_reader_discount [((.t 76), false)] true),
 iO 78 (.bsl 6 1 (.agg [(.str []), (.int .i64 0), (.int .i64 0), (.str []), (.sl false 4 []), (.int .i64 0)]) [(0, (.t 77))]),
 iO 79 (.app 6 80 (.t 75) (.t 78) none),
 iO 80 (.fa (.t 3) 6 (some 3)),
 iN (.st (.t 80) (.t 79) 1 true (some 3))])))
@[go_sem] def mk_14 : List Bool := [K0,K0,K0,K0,K0,K0,K0,K0,K0,K0,K0,K0,K0,K0,K0,K0,K0,K0,K0,K0,K0,K0,K0,K0,K0,K0,K0,K0,K0,K0,K0,K0,K0,K0,K0,K0,K0,K0,K0,K0,K0,K0,K0,K0,K0,K0,K0,K0,K0,K0,K0,K0,K0,K0,K0,K0,K0,K0,K0,K0,K0,K0,K0,K0,K0,K0,K0,K0,K0,K0,K0,K0,K1,K1,K1,K1,K1,K1,K1,K1,K1]
def parser_reader_tariff_l4 : AC := .pre mk_14 parser_reader_tariff_l4b
@[go_sem] theorem parser_reader_tariff_l4_go : LoopRule parser_reader_tariff_l4 parser_reader_tariff_l4b mk_14 := loopRule
@[go_sem] theorem parser_reader_tariff_l4_lp : LpRule parser_reader_tariff_l4 parser_reader_tariff_l4b mk_14 := lpRule
def parser_reader_tariff_k1b : AC := (.seq (.reg [
 iN (.cmb 3),
 iO 81 (.ld (.t 3) (some 7) false (some 3)),
 iN (.st (.t 2) (.t 81) 7 false (some 2))])
 .ret)
def parser_reader_tariff_k1 : AC := .pre mk_9 parser_reader_tariff_k1b
def parser_reader_tariff_k2b : AC := (.seq (.blk 6 (.loop parser_reader_tariff_l4))
 parser_reader_tariff_k1)
def parser_reader_tariff_k2 : AC := .pre mk_10 parser_reader_tariff_k2b
def parser_reader_tariff_k3b : AC := (.seq (.blk 4 (.loop parser_reader_tariff_l3))
 parser_reader_tariff_k2)
def parser_reader_tariff_k3 : AC := .pre mk_11 parser_reader_tariff_k3b
def parser_reader_tariff_k4b : AC := (.seq (.blk 2 (.loop parser_reader_tariff_l2))
 parser_reader_tariff_k3)
def parser_reader_tariff_k4 : AC := .pre mk_12 parser_reader_tariff_k4b
def a_parser_reader_tariff : AF := ⟨82, (.seq (.reg [
 iO 2 (.newbox [(.str []), (.int .i64 0), (.bool false), (.sl false 2 []), (.sl false 2 []), (.sl false 5 []), (.sl false 6 [])])])
 (.seq (.reg [
 iO 3 (.newbox [(.str []), (.int .i64 0), (.bool false), (.sl true 2 []), (.sl true 2 []), (.sl true 5 []), (.sl true 6 [])])])
 (.seq (.reg [
 iM 6 0,
 iO 7 (.call n_parser_reader_needWord [((.t 6), false), ((.c (.str [116, 97, 114, 105, 102, 102])), false)] true)])
 (.seq (.reg [
 iM 8 0,
 iO 9 (.call n_parser_reader_name [((.t 8), false)] true),
 iO 10 (.fa (.t 3) 0 (some 3)),
 iN (.st (.t 10) (.t 9) 1 false (some 3))])
 (.seq (.reg [
 iM 11 0,
 iO 12 (.call n_parser_reader_needWord [((.t 11), false), ((.c (.str [102, 114, 111, 109])), false)] true)])
 (.seq (.reg [
 iM 13 0,
 iO 14 (.call n_parser_reader_date [((.t 13), false)] true),
 iO 15 (.fa (.t 3) 1 (some 3)),
 iN (.st (.t 15) (.t 14) 1 false (some 3))])
 (.seq (.seq (.reg [
 iM 16 0,
 iO 17 (.call n_parser_reader_peek [((.t 16), false)] true),
 iO 18 (.fld (.t 17) 0 1 false),
 iI 19 .eql 18 2])
 (.cond (.t 19) (.seq (.reg [
 iM 20 0,
 iO 21 (.call n_parser_reader_fixed [((.t 20), false), ((.c (.int .i64 2)), false), ((.c (.int .i64 23)), false)] true),
 iM 4 21])
 (.seq (.reg [
 iM 22 0,
 iO 23 (.call n_parser_reader_needSymbol [((.t 22), false), ((.c (.str [58])), false)] true)])
 (.seq (.reg [
 iM 24 0,
 iO 25 (.call n_parser_reader_fixed [((.t 24), false), ((.c (.int .i64 2)), false), ((.c (.int .i64 59)), false)] true),
 iM 5 25])
 (.seq (.reg [
 iM 26 0,
 iO 27 (.call n_parser_reader_needSymbol [((.t 26), false), ((.c (.str [58])), false)] true)])
 (.preg [
 iO 28 (.fa (.t 3) 1 (some 3)),
 iO 29 (.ld (.t 28) none false (some 3)),
 iC 30 4,
 iO 31 (.bin .mul (.c (.int .i64 3600)) (.t 30)),
 iC 32 5,
 iO 33 (.bin .mul (.c (.int .i64 60)) (.t 32)),
 iB 34 .add 31 33,
 iC 35 0,
 iO 36 (.call n_parser_reader_fixed [((.t 35), false), ((.c (.int .i64 2)), false), ((.c (.int .i64 59)), false)] true),
 iB 37 .add 34 36,
 iB 38 .add 29 37,
 iO 39 (.fa (.t 3) 1 (some 3)),
 iN (.st (.t 39) (.t 38) 1 false (some 3))])))))
 .skip))
 (.seq (.reg [
 iM 40 0,
 iO 41 (.call n_parser_reader_takeWord [((.t 40), false), ((.c (.str [115, 112, 108, 105, 116])), false)] true),
 iO 42 (.fa (.t 3) 2 (some 3)),
 iN (.st (.t 42) (.t 41) 1 false (some 3))])
 (.seq (.reg [
 iM 43 0,
 iO 44 (.call n_parser_reader_needSymbol [((.t 43), false), ((.c (.str [59])), false)] true)])
 (.seq (.blk 0 (.pre mk_8 (.loop parser_reader_tariff_l1)))
 parser_reader_tariff_k4)))))))))), [.cell 2 (some 7)]⟩
def a_parser_reader_end : AF := ⟨9, (.seq (.reg [
 iM 2 0,
 iO 3 (.call n_parser_reader_peek [((.t 2), false)] true),
 iO 4 (.fld (.t 3) 0 1 false),
 iI 5 .neq 4 0])
 (.cond (.t 5) (.reg [
 iM 6 0,
 iO 7 (.call n_parser_reader_peek [((.t 6), false)] true),
 iO 8 (.call n_parser_fail [((.t 7), false), ((.c (.int .i64 1)), false)] false)])
 .skip)), []⟩
@[go_sem] def mk_15 : List Bool := [K0,K0,K1]
@[go_sem] def mk_16 : List Bool := [K0,K0,K0,K0,K0,K1]
@[go_sem] def mk_17 : List Bool := [K0,K0,K0,K0,K0,K0,K0,K0,K0,K0,K1,K1,K1,K1,K1]
@[go_sem] def mk_18 : List Bool := [K0,K0,K1,K1,K1,K0,K1,K1,K1,K1,K1,K1,K1,K1,K1,K1,K1,K1,K1,K1,K1,K1,K1,K1,K1,K1,K1,K1,K1,K1,K1,K1,K1,K1,K1,K1,K1]
def billingref23_Scan_l1b : AC := (.seq (.seq (.reg [
 iM 15 6,
 iM 16 0,
 iO 17 (.len true (.t 16) none),
 iB 18 .lss 15 17])
 (.pre mk_15 (.cond (.t 18) .skip
 (.exit 0))))
 (.pre mk_15 (.blk 1 (.seq (.reg [
 iM 20 0,
 iM 21 6,
 iO 22 (.call n_billingref23_token [((.t 20), false), ((.t 21), false)] false),
 iM 19 22,
 iO 23 (.ext 19 0),
 iO 24 (.ext 19 1),
 iO 25 (.ext 19 2),
 iO 7 (.newbox [(.int .i64 0), (.int .i64 0), (.int .i64 0), (.str [])]),
 iN (.st (.t 7) (.t 23) 4 false (some 7)),
 iM 8 24,
 iM 9 25])
 (.seq (.seq (.reg [
 iM 26 9,
 iI 27 .neq 26 0])
 (.cond (.t 27) (.seq (.reg [
 iM 28 6,
 iM 29 9,
 iK 2 (.sl true 4 []),
 iM 3 28,
 iM 4 29])
 (.pre mk_16 .ret))
 .skip))
 (.pre mk_15 (.seq (.reg [
 iM 30 5,
 iO 31 (.ld (.t 7) (some 4) false (some 7)),
 iO 32 (.bsl 4 1 (.agg [(.int .i64 0), (.int .i64 0), (.int .i64 0), (.str [])]) [(0, (.t 31))]),
 iO 33 (.app 4 40 (.t 30) (.t 32) none),
 iM 5 33])
 (.reg [
 iM 34 0,
 iM 35 8,
 iO 36 (.call n_billingref23_Skip [((.t 34), false), ((.t 35), false)] false),
 iM 6 36]))))))))
@[go_sem] def mk_19 : List Bool := [K0,K0,K1,K1,K1,K0,K0,K1,K1,K1,K0,K0,K0,K0,K0,K1,K1,K1,K1,K1,K1,K1,K1,K1,K1,K1,K1,K1,K1,K1,K1,K1,K1,K1,K1,K1,K1]
def billingref23_Scan_l1 : AC := .pre mk_19 billingref23_Scan_l1b
@[go_sem] theorem billingref23_Scan_l1_go : LoopRule billingref23_Scan_l1 billingref23_Scan_l1b mk_19 := loopRule
@[go_sem] theorem billingref23_Scan_l1_lp : LpRule billingref23_Scan_l1 billingref23_Scan_l1b mk_19 := lpRule
def billingref23_Scan_k1b : AC := (.seq (.reg [
 iM 37 5,
 iM 38 0,
 iO 39 (.len true (.t 38) none),
 iO 40 (.build [(.int .i64 0), (.int .i64 0), (.int .i64 0), (.str [])] [(0, 1, (.c (.int .i64 0))), (2, 1, (.t 39))]),
 iO 41 (.bsl 4 1 (.agg [(.int .i64 0), (.int .i64 0), (.int .i64 0), (.str [])]) [(0, (.t 40))]),
 iO 42 (.app 4 40 (.t 37) (.t 41) none),
 iM 2 42,
 iK 3 (.int .i64 0),
 iK 4 (.int .i64 0)])
 (.pre mk_16 .ret))
def billingref23_Scan_k1 : AC := .pre mk_18 billingref23_Scan_k1b
def a_billingref23_Scan : AF := ⟨43, (.seq (.reg [
 iK 2 (.sl true 4 []),
 iK 3 (.int .i64 0),
 iK 4 (.int .i64 0)])
 (.pre mk_15 (.seq (.seq (.reg [
 iM 10 0,
 iO 11 (.len true (.t 10) none),
 iI 12 .gtr 11 65536])
 (.cond (.t 12) (.seq (.reg [
 iK 2 (.sl true 4 []),
 iK 3 (.int .i64 0),
 iK 4 (.int .i64 5)])
 .ret)
 .skip))
 (.pre mk_15 (.seq (.reg [
 iK 5 (.sl true 4 [])])
 (.seq (.reg [
 iM 13 0,
 iO 14 (.call n_billingref23_Skip [((.t 13), false), ((.c (.int .i64 0)), false)] false),
 iM 6 14])
 (.seq (.blk 0 (.pre mk_17 (.loop billingref23_Scan_l1)))
 billingref23_Scan_k1))))))), [.tmp 2, .tmp 3, .tmp 4]⟩
@[go_sem] def mk_20 : List Bool := [K0,K0,K0,K0,K1,K1,K1,K1,K1,K1,K1,K1,K1,K1,K1,K1,K1,K1,K1,K1,K1,K1,K1,K1,K1,K1]
@[go_sem] def mk_21 : List Bool := [K1,K0,K0,K0,K0,K0,K0,K0,K0,K0,K0,K0,K0,K0,K0,K0,K0,K0,K0,K0,K0,K0,K0,K0,K0,K0,K0,K0,K0,K0,K0,K0,K0,K0,K0,K0,K0,K0,K0,K0,K0,K0,K0,K0,K0,K0,K0,K0,K0,K0,K0,K0,K0,K1,K1,K1,K1,K1,K1,K1,K1,K1]
@[go_sem] def mk_22 : List Bool := [K0,K0,K0,K0,K0,K0,K0,K0,K0,K0,K0,K0,K0,K0,K0,K0,K0,K0,K0,K0,K0,K0,K0,K0,K0,K0,K0,K0,K0,K0,K0,K0,K0,K0,K0,K0,K0,K0,K0,K0,K0,K0,K0,K0,K1,K1,K1,K1,K1,K1,K1,K1,K1]
@[go_sem] def mk_23 : List Bool := [K0,K0,K0,K0,K0,K0,K0,K0,K0,K0,K0,K0,K0,K0,K0,K0,K0,K0,K0,K0,K0,K0,K0,K0,K0,K0,K0,K0,K0,K0,K0,K0,K0,K0,K0,K1,K1,K1,K1,K1,K1,K1,K1,K1]
@[go_sem] def mk_24 : List Bool := [K0,K0,K0,K0,K1,K1,K1,K1,K1,K1,K1,K1,K1,K1,K1,K1,K1,K1,K1,K1,K1,K1,K1,K1,K1,K1,K1,K1,K1,K1,K1,K1,K1,K1,K1]
def billingref24_Reader_tariff_l1b : AC := (.seq (.seq (.reg [
 iM 26 0,
 iO 27 (.call n_billingref24_Reader_accept [((.t 26), false), ((.c (.str [122, 111, 110, 101])), false)] true)])
 (.cond (.t 27) .skip
 (.exit 0)))
 (.blk 1 (.dreg [
 iO 28 (.fa (.t 3) 3 (some 3)),
 iO 29 (.ld (.t 28) none true (some 3)),
 iC 30 0,
 iO 31 (.call n_billingref24_Reader_zone [((.t 30), false)] true),
 iO 32 (.bsl 2 1 (.agg [(.str []), (.sl false 1 [])]) [(0, (.t 31))]),
 iO 33 (.app 2 40 (.t 29) (.t 32) none),
 iO 34 (.fa (.t 3) 3 (some 3)),
 iN (.st (.t 34) (.t 33) 1 true (some 3))])))
@[go_sem] def mk_25 : List Bool := [K0,K0,K0,K0,K0,K0,K0,K0,K0,K0,K0,K0,K0,K0,K0,K0,K0,K0,K0,K0,K0,K0,K0,K0,K0,K0,K1,K1,K1,K1,K1,K1,K1,K1,K1]
def billingref24_Reader_tariff_l1 : AC := .pre mk_25 billingref24_Reader_tariff_l1b
@[go_sem] theorem billingref24_Reader_tariff_l1_go : LoopRule billingref24_Reader_tariff_l1 billingref24_Reader_tariff_l1b mk_25 := loopRule
@[go_sem] theorem billingref24_Reader_tariff_l1_lp : LpRule billingref24_Reader_tariff_l1 billingref24_Reader_tariff_l1b mk_25 := lpRule
def billingref24_Reader_tariff_l2b : AC := (.seq (.seq (.reg [
 iM 35 0,
 iO 36 (.call n_billingref24_Reader_accept [((.t 35), false), ((.c (.str [98, 97, 110, 100])), false)] true)])
 (.cond (.t 36) .skip
 (.exit 2)))
 (.blk 3 (.dreg [
 iO 37 (.fa (.t 3) 4 (some 3)),
 iO 38 (.ld (.t 37) none true (some 3)),
 iC 39 0,
 iO 40 (.call n_billingref24_Reader_band [((.t 39), false)] true),
 iO 41 (.bsl 2 1 (.agg [(.str []), (.sl false 3 [])]) [(0, (.t 40))]),
 iO 42 (.app 2 40 (.t 38) (.t 41) none),
 iO 43 (.fa (.t 3) 4 (some 3)),
 iN (.st (.t 43) (.t 42) 1 true (some 3))])))
def billingref24_Reader_tariff_l2 : AC := .pre mk_23 billingref24_Reader_tariff_l2b
@[go_sem] theorem billingref24_Reader_tariff_l2_go : LoopRule billingref24_Reader_tariff_l2 billingref24_Reader_tariff_l2b mk_23 := loopRule
@[go_sem] theorem billingref24_Reader_tariff_l2_lp : LpRule billingref24_Reader_tariff_l2 billingref24_Reader_tariff_l2b mk_23 := lpRule
def billingref24_Reader_tariff_l3b : AC := (.seq (.seq (.reg [
 iM 44 0,
 iO 45 (.call n_billingref24_Reader_accept [((.t 44), false), ((.c (.str [114, 97, 116, 101])), false)] true)])
 (.cond (.t 45) .skip
 (.exit 4)))
 (.blk 5 (.dreg [
 iO 46 (.fa (.t 3) 5 (some 3)),
 iO 47 (.ld (.t 46) none true (some 3)),
 iC 48 0,
 iO 49 (.call n_billingref24_Reader_rate [((.t 48), false)] true),
 iO 50 (.bsl 5 1 (.agg [(.int .i64 0), (.str []), (.str []), (.int .i64 0), (.sl false 3 [])]) [(0, (.t 49))]),
 iO 51 (.app 5 72 (.t 47) (.t 50) none),
 iO 52 (.fa (.t 3) 5 (some 3)),
 iN (.st (.t 52) (.t 51) 1 true (some 3))])))
def billingref24_Reader_tariff_l3 : AC := .pre mk_22 billingref24_Reader_tariff_l3b
@[go_sem] theorem billingref24_Reader_tariff_l3_go : LoopRule billingref24_Reader_tariff_l3 billingref24_Reader_tariff_l3b mk_22 := loopRule
@[go_sem] theorem billingref24_Reader_tariff_l3_lp : LpRule billingref24_Reader_tariff_l3 billingref24_Reader_tariff_l3b mk_22 := lpRule
def billingref24_Reader_tariff_l4b : AC := (.seq (.seq (.reg [
 iM 53 0,
 iO 54 (.call n_billingref24_Reader_accept [((.t 53), false), ((.c (.str [100, 105, 115, 99, 111, 117, 110, 116])), false)] true)])
 (.cond (.t 54) .skip
 (.exit 6)))
 (.blk 7 (.dreg [
 iO 55 (.fa (.t 3) 6 (some 3)),
 iO 56 (.ld (.t 55) none true (some 3)),
 iC 57 0,
 iO 58 (.call n_billingref24_Reader_discount [((.t 57), false)] true),
 iO 59 (.bsl 6 1 (.agg [(.str []), (.int .i64 0), (.int .i64 0), (.str []), (.sl false 4 []), (.int .i64 0)]) [(0, (.t 58))]),
 iO 60 (.app 6 80 (.t 56) (.t 59) none),
 iO 61 (.fa (.t 3) 6 (some 3)),
 iN (.st (.t 61) (.t 60) 1 true (some 3))])))
@[go_sem] def mk_26 : List Bool := [K0,K0,K0,K0,K0,K0,K0,K0,K0,K0,K0,K0,K0,K0,K0,K0,K0,K0,K0,K0,K0,K0,K0,K0,K0,K0,K0,K0,K0,K0,K0,K0,K0,K0,K0,K0,K0,K0,K0,K0,K0,K0,K0,K0,K0,K0,K0,K0,K0,K0,K0,K0,K0,K1,K1,K1,K1,K1,K1,K1,K1,K1]
def billingref24_Reader_tariff_l4 : AC := .pre mk_26 billingref24_Reader_tariff_l4b
@[go_sem] theorem billingref24_Reader_tariff_l4_go : LoopRule billingref24_Reader_tariff_l4 billingref24_Reader_tariff_l4b mk_26 := loopRule
@[go_sem] theorem billingref24_Reader_tariff_l4_lp : LpRule billingref24_Reader_tariff_l4 billingref24_Reader_tariff_l4b mk_26 := lpRule
def billingref24_Reader_tariff_k1b : AC := (.seq (.reg [
 iN (.cmb 3),
 iO 62 (.ld (.t 3) (some 7) false (some 3)),
 iN (.st (.t 2) (.t 62) 7 false (some 2))])
 .ret)
def billingref24_Reader_tariff_k1 : AC := .pre mk_21 billingref24_Reader_tariff_k1b
def billingref24_Reader_tariff_k2b : AC := (.seq (.blk 6 (.loop billingref24_Reader_tariff_l4))
 billingref24_Reader_tariff_k1)
def billingref24_Reader_tariff_k2 : AC := .pre mk_22 billingref24_Reader_tariff_k2b
def billingref24_Reader_tariff_k3b : AC := (.seq (.blk 4 (.loop billingref24_Reader_tariff_l3))
 billingref24_Reader_tariff_k2)
def billingref24_Reader_tariff_k3 : AC := .pre mk_23 billingref24_Reader_tariff_k3b
def billingref24_Reader_tariff_k4b : AC := (.seq (.blk 2 (.loop billingref24_Reader_tariff_l2))
 billingref24_Reader_tariff_k3)
def billingref24_Reader_tariff_k4 : AC := .pre mk_24 billingref24_Reader_tariff_k4b
def a_billingref24_Reader_tariff : AF := ⟨63, (.seq (.reg [
 iO 2 (.newbox [(.str []), (.int .i64 0), (.bool false), (.sl false 2 []), (.sl false 2 []), (.sl false 5 []), (.sl false 6 [])])])
 (.seq (.reg [
 iM 4 0,
 iO 5 (.call n_billingref24_Reader_expect [((.t 4), false), ((.c (.str [116, 97, 114, 105, 102, 102])), false)] true)])
 (.seq (.reg [
 iM 6 0,
 iO 7 (.call n_billingref24_Reader_name [((.t 6), false)] true),
 iO 8 (.build [(.str []), (.int .i64 0), (.bool false), (.sl false 0 []), (.sl false 0 []), (.sl false 0 []), (.sl false 0 [])] [(0, 1, (.t 7))]),
 iO 3 (.newbox [(.str []), (.int .i64 0), (.bool false), (.sl true 2 []), (.sl true 2 []), (.sl true 5 []), (.sl true 6 [])]),
 iN (.st (.t 3) (.t 8) 7 false (some 3))])
 (.seq (.reg [
 iM 9 0,
 iO 10 (.call n_billingref24_Reader_expect [((.t 9), false), ((.c (.str [102, 114, 111, 109])), false)] true)])
 (.seq (.reg [
 iM 11 0,
 iO 12 (.call n_billingref24_Reader_date [((.t 11), false)] true),
 iO 13 (.bin .mul (.c (.int .i64 86400)) (.t 12)),
 iO 14 (.fa (.t 3) 1 (some 3)),
 iN (.st (.t 14) (.t 13) 1 false (some 3))])
 (.seq (.dreg [
 iO 15 (.fa (.t 3) 1 (some 3)),
 iO 16 (.ld (.t 15) none false (some 3)),
 iC 17 0,
 iO 18 (.call n_billingref24_Reader_clock [((.t 17), false)] true),
 iB 19 .add 16 18,
 iO 20 (.fa (.t 3) 1 (some 3)),
 iN (.st (.t 20) (.t 19) 1 false (some 3))])
 (.seq (.reg [
 iM 21 0,
 iO 22 (.call n_billingref24_Reader_accept [((.t 21), false), ((.c (.str [115, 112, 108, 105, 116])), false)] true),
 iO 23 (.fa (.t 3) 2 (some 3)),
 iN (.st (.t 23) (.t 22) 1 false (some 3))])
 (.seq (.reg [
 iM 24 0,
 iO 25 (.call n_billingref24_Reader_expect [((.t 24), false), ((.c (.str [59])), false)] true)])
 (.seq (.blk 0 (.pre mk_20 (.loop billingref24_Reader_tariff_l1)))
 billingref24_Reader_tariff_k4))))))))), [.cell 2 (some 7)]⟩
def a_billingref24_Reader_end : AF := ⟨8, (.seq (.reg [
 iM 2 0,
 iO 3 (.call n_billingref24_Reader_now [((.t 2), false)] true),
 iO 4 (.fld (.t 3) 0 1 false),
 iI 5 .neq 4 0])
 (.cond (.t 5) (.reg [
 iM 6 0,
 iO 7 (.call n_billingref24_Reader_fail [((.t 6), false), ((.c (.int .i64 1)), false)] true)])
 .skip)), []⟩
def a_billingref24_Reader_now : AF := ⟨13, (.seq (.reg [
 iO 2 (.newbox [(.int .i64 0), (.int .i64 0), (.int .i64 0), (.str [])])])
 (.seq (.dreg [
 iC 3 0,
 iO 4 (.nck (.t 3) none),
 iF 5 4 0,
 iL 6 5,
 iC 7 0,
 iO 8 (.nck (.t 7) none),
 iF 9 8 1,
 iL 10 9,
 iO 11 (.ia (.t 6) (.t 10) 4 none none),
 iO 12 (.ld (.t 11) (some 4) false none),
 iN (.st (.t 2) (.t 12) 4 false (some 2))])
 .ret)), [.cell 2 (some 4)]⟩
@[go_sem] def mk_27 : List Bool := [K0,K0,K0,K0,K0,K0,K1,K1,K1,K1,K1]
@[go_sem] def mk_28 : List Bool := [K1,K1,K0,K0,K1,K1,K1,K1,K1,K1,K1,K1,K1,K1,K1,K1,K1,K1,K1,K1,K1,K1,K1,K1,K1,K1]
def billingref24_SameTexts_l1b : AC := (.seq (.seq (.reg [
 iM 11 5,
 iC 12 0,
 iO 13 (.len false (.t 12) (some 0)),
 iB 14 .lss 11 13])
 (.cond (.t 14) .skip
 (.exit 0)))
 (.seq (.blk 1 (.seq (.dreg [
 iC 17 0,
 iC 18 5,
 iO 19 (.ia (.t 17) (.t 18) 1 none (some 0)),
 iL 20 19,
 iC 21 1,
 iC 22 5,
 iO 23 (.ia (.t 21) (.t 22) 1 none (some 1)),
 iL 24 23,
 iB 25 .neq 20 24])
 (.cond (.t 25) (.seq (.reg [
 iK 4 (.bool false)])
 .ret)
 .skip)))
 (.reg [
 iM 15 5,
 iI 16 .add 15 1,
 iM 5 16])))
@[go_sem] def mk_29 : List Bool := [K0,K0,K0,K0,K1,K0,K0,K0,K0,K0,K0,K1,K1,K1,K1,K1,K1,K1,K1,K1,K1,K1,K1,K1,K1,K1]
def billingref24_SameTexts_l1 : AC := .pre mk_29 billingref24_SameTexts_l1b
@[go_sem] theorem billingref24_SameTexts_l1_go : LoopRule billingref24_SameTexts_l1 billingref24_SameTexts_l1b mk_29 := loopRule
@[go_sem] theorem billingref24_SameTexts_l1_lp : LpRule billingref24_SameTexts_l1 billingref24_SameTexts_l1b mk_29 := lpRule
def billingref24_SameTexts_k1b : AC := (.seq (.reg [
 iK 4 (.bool true)])
 .ret)
def billingref24_SameTexts_k1 : AC := .pre mk_28 billingref24_SameTexts_k1b
def a_billingref24_SameTexts : AF := ⟨26, (.seq (.reg [
 iK 4 (.bool false)])
 (.seq (.seq (.reg [
 iC 6 0,
 iO 7 (.len false (.t 6) (some 0)),
 iC 8 1,
 iO 9 (.len false (.t 8) (some 1)),
 iB 10 .neq 7 9])
 (.cond (.t 10) (.seq (.reg [
 iK 4 (.bool false)])
 .ret)
 .skip))
 (.seq (.seq (.reg [
 iK 5 (.int .i64 0)])
 (.blk 0 (.pre mk_27 (.loop billingref24_SameTexts_l1))))
 billingref24_SameTexts_k1))), [.tmp 4]⟩
@[go_sem] def mk_30 : List Bool := [K1,K1,K0,K0,K0,K0,K1,K1,K1,K1,K1,K1,K1,K1,K1,K1,K1,K1,K1,K1,K1,K1,K1,K1,K1,K1,K1,K1,K1,K1,K1,K1,K1,K1]
@[go_sem] def mk_31 : List Bool := [K1,K1,K1,K1,K1,K1,K1,K1,K1,K1,K1,K1,K1,K1,K1,K1,K1,K1,K1,K1,K1,K1,K1,K1,K1,K1,K1,K1,K1,K1,K1,K1,K1,K1,K1,K1,K1,K1,K1,K1,K1,K1,K1,K1,K1,K1,K1,K1,K1,K1,K1,K1,K1]
def billingref24_SameExpr_l1b : AC := (.seq (.seq (.reg [
 iM 34 5,
 iF 35 2 3,
 iL 36 35,
 iO 37 (.len false (.t 36) none),
 iB 38 .lss 34 37])
 (.cond (.t 38) .skip
 (.exit 0)))
 (.seq (.blk 1 (.seq (.dreg [
 iF 41 2 3,
 iL 42 41,
 iC 43 5,
 iO 44 (.ia (.t 42) (.t 43) 4 none none),
 iO 45 (.ld (.t 44) (some 4) false none),
 iF 46 3 3,
 iL 47 46,
 iC 48 5,
 iO 49 (.ia (.t 47) (.t 48) 4 none none),
 iO 50 (.ld (.t 49) (some 4) false none),
 iO 51 (.call n_billingref24_SameExpr [((.t 45), false), ((.t 50), false)] false),
 iO 52 (.un .not (.t 51))])
 (.cond (.t 52) (.seq (.reg [
 iK 4 (.bool false)])
 .ret)
 .skip)))
 (.reg [
 iM 39 5,
 iI 40 .add 39 1,
 iM 5 40])))
@[go_sem] def mk_32 : List Bool := [K0,K0,K0,K0,K1,K0,K0,K0,K0,K0,K0,K0,K0,K0,K0,K0,K0,K0,K0,K0,K0,K0,K0,K0,K0,K0,K0,K0,K0,K0,K0,K0,K0,K0,K1,K1,K1,K1,K1,K1,K1,K1,K1,K1,K1,K1,K1,K1,K1,K1,K1,K1,K1]
def billingref24_SameExpr_l1 : AC := .pre mk_32 billingref24_SameExpr_l1b
@[go_sem] theorem billingref24_SameExpr_l1_go : LoopRule billingref24_SameExpr_l1 billingref24_SameExpr_l1b mk_32 := loopRule
@[go_sem] theorem billingref24_SameExpr_l1_lp : LpRule billingref24_SameExpr_l1 billingref24_SameExpr_l1b mk_32 := lpRule
def billingref24_SameExpr_k1b : AC := (.seq (.reg [
 iK 4 (.bool true)])
 .ret)
def billingref24_SameExpr_k1 : AC := .pre mk_31 billingref24_SameExpr_k1b
def a_billingref24_SameExpr : AF := ⟨53, (.seq (.reg [
 iO 2 (.boxr (.t 0)),
 iO 3 (.boxr (.t 1)),
 iK 4 (.bool false)])
 (.seq (.seq (.reg [
 iF 6 2 0,
 iL 7 6,
 iF 8 3 0,
 iL 9 8,
 iB 10 .neq 7 9,
 iM 11 10,
 iG 12 (.fa (.t 2) 1 none) 11 false,
 iG 13 (.ld (.t 12) none false none) 11 false,
 iG 14 (.fa (.t 3) 1 none) 11 false,
 iG 15 (.ld (.t 14) none false none) 11 false,
 iG 16 (.bin .neq (.t 13) (.t 15)) 11 false,
 iO 17 (.pick (.t 11) (.c (.bool true)) (.t 16)),
 iM 18 17,
 iG 19 (.fa (.t 2) 2 none) 18 false,
 iG 20 (.ld (.t 19) none false none) 18 false,
 iG 21 (.fa (.t 3) 2 none) 18 false,
 iG 22 (.ld (.t 21) none false none) 18 false,
 iG 23 (.bin .neq (.t 20) (.t 22)) 18 false,
 iO 24 (.pick (.t 18) (.c (.bool true)) (.t 23)),
 iM 25 24,
 iG 26 (.fa (.t 2) 3 none) 25 false,
 iG 27 (.ld (.t 26) none false none) 25 false,
 iG 28 (.len false (.t 27) none) 25 false,
 iG 29 (.fa (.t 3) 3 none) 25 false,
 iG 30 (.ld (.t 29) none false none) 25 false,
 iG 31 (.len false (.t 30) none) 25 false,
 iG 32 (.bin .neq (.t 28) (.t 31)) 25 false,
 iO 33 (.pick (.t 25) (.c (.bool true)) (.t 32))])
 (.cond (.t 33) (.seq (.reg [
 iK 4 (.bool false)])
 .ret)
 .skip))
 (.seq (.seq (.reg [
 iK 5 (.int .i64 0)])
 (.blk 0 (.pre mk_30 (.loop billingref24_SameExpr_l1))))
 billingref24_SameExpr_k1))), [.tmp 4]⟩
@[go_sem] def mk_33 : List Bool := [K0,K0,K0,K0,K0,K0,K0,K1,K1,K1,K1,K1,K1,K1,K1,K1,K1,K1,K1,K1,K1,K1,K1,K1,K1,K1,K1,K1,K1,K1,K1,K1,K1,K1,K1,K1,K1,K1,K1,K1,K1,K1,K1,K1]
@[go_sem] def mk_34 : List Bool := [K0,K0,K0,K0,K1,K0,K1,K1,K1,K1,K1,K1,K1,K1,K1,K1,K1,K1,K1,K1,K1,K1,K1,K1,K1,K1,K1,K1,K1,K1,K1,K1,K1,K1,K1,K1,K1,K1,K1,K1,K1,K1,K1,K1,K1,K1,K1,K1,K1,K1,K1,K1,K1,K1,K1,K1,K1,K1,K1,K1,K1,K1,K1,K1,K1,K1,K1,K1,K1,K1,K1]
@[go_sem] def mk_35 : List Bool := [K0,K0,K0,K0,K0,K0,K0,K1,K1,K1,K1,K1]
@[go_sem] def mk_36 : List Bool := [K1,K1,K0,K0,K1,K1,K1,K1,K1,K1,K1,K1,K1,K1,K1,K1,K1,K1,K1,K1,K1,K1,K1,K1,K1,K1,K1,K1,K1,K1,K1,K1,K1,K1,K1,K1,K1,K1,K1,K1,K1,K1,K1,K1,K1,K1,K1,K1,K1,K1,K1,K1,K1,K1,K1,K1,K1,K1,K1,K1,K1,K1,K1,K1,K1,K1,K1,K1,K1,K1,K1]
def billingref24_sameBands_l1b : AC := (.seq (.seq (.reg [
 iM 44 6,
 iC 45 0,
 iM 46 5,
 iO 47 (.ia (.t 45) (.t 46) 2 none (some 0)),
 iF 48 47 1,
 iL 49 48,
 iO 50 (.len false (.t 49) none),
 iB 51 .lss 44 50])
 (.cond (.t 51) .skip
 (.exit 2)))
 (.seq (.blk 3 (.seq (.dreg [
 iC 54 0,
 iC 55 5,
 iO 56 (.ia (.t 54) (.t 55) 2 none (some 0)),
 iF 57 56 1,
 iL 58 57,
 iC 59 6,
 iO 60 (.ia (.t 58) (.t 59) 3 none none),
 iO 61 (.ld (.t 60) (some 3) false none),
 iC 62 1,
 iC 63 5,
 iO 64 (.ia (.t 62) (.t 63) 2 none (some 1)),
 iF 65 64 1,
 iL 66 65,
 iC 67 6,
 iO 68 (.ia (.t 66) (.t 67) 3 none none),
 iO 69 (.ld (.t 68) (some 3) false none),
 iO 70 (.eqs true [0, 0, 0] (.t 61) (.t 69))])
 (.cond (.t 70) (.seq (.reg [
 iK 4 (.bool false)])
 .ret)
 .skip)))
 (.reg [
 iM 52 6,
 iI 53 .add 52 1,
 iM 6 53])))
@[go_sem] def mk_37 : List Bool := [K0,K0,K0,K0,K1,K0,K0,K0,K0,K0,K0,K0,K0,K0,K0,K0,K0,K0,K0,K0,K0,K0,K0,K0,K0,K0,K0,K0,K0,K0,K0,K0,K0,K0,K0,K0,K0,K0,K0,K0,K0,K0,K0,K0,K1,K1,K1,K1,K1,K1,K1,K1,K1,K1,K1,K1,K1,K1,K1,K1,K1,K1,K1,K1,K1,K1,K1,K1,K1,K1,K1]
def billingref24_sameBands_l1 : AC := .pre mk_37 billingref24_sameBands_l1b
@[go_sem] theorem billingref24_sameBands_l1_go : LoopRule billingref24_sameBands_l1 billingref24_sameBands_l1b mk_37 := loopRule
@[go_sem] theorem billingref24_sameBands_l1_lp : LpRule billingref24_sameBands_l1 billingref24_sameBands_l1b mk_37 := lpRule
def billingref24_sameBands_k1b : AC := (.reg [
 iM 16 5,
 iI 17 .add 16 1,
 iM 5 17])
def billingref24_sameBands_k1 : AC := .pre mk_34 billingref24_sameBands_k1b
def billingref24_sameBands_l2b : AC := (.seq (.seq (.reg [
 iM 12 5,
 iC 13 0,
 iO 14 (.len false (.t 13) (some 0)),
 iB 15 .lss 12 14])
 (.cond (.t 15) .skip
 (.exit 0)))
 (.seq (.blk 1 (.seq (.seq (.dreg [
 iC 18 0,
 iC 19 5,
 iO 20 (.ia (.t 18) (.t 19) 2 none (some 0)),
 iF 21 20 0,
 iL 22 21,
 iC 23 1,
 iC 24 5,
 iO 25 (.ia (.t 23) (.t 24) 2 none (some 1)),
 iF 26 25 0,
 iL 27 26,
 iB 28 .neq 22 27,
 iC 29 28,
 iG 30 (.cp (.t 0)) 29 false,
 iG 31 (.cp (.t 5)) 29 false,
 iG 32 (.ia (.t 30) (.t 31) 2 none (some 0)) 29 false,
 iG 33 (.fa (.t 32) 1 none) 29 false,
 iG 34 (.ld (.t 33) none false none) 29 false,
 iG 35 (.len false (.t 34) none) 29 false,
 iG 36 (.cp (.t 1)) 29 false,
 iG 37 (.cp (.t 5)) 29 false,
 iG 38 (.ia (.t 36) (.t 37) 2 none (some 1)) 29 false,
 iG 39 (.fa (.t 38) 1 none) 29 false,
 iG 40 (.ld (.t 39) none false none) 29 false,
 iG 41 (.len false (.t 40) none) 29 false,
 iG 42 (.bin .neq (.t 35) (.t 41)) 29 false,
 iO 43 (.pick (.t 29) (.c (.bool true)) (.t 42))])
 (.cond (.t 43) (.seq (.reg [
 iK 4 (.bool false)])
 .ret)
 .skip))
 (.seq (.reg [
 iK 6 (.int .i64 0)])
 (.blk 2 (.pre mk_33 (.loop billingref24_sameBands_l1))))))
 billingref24_sameBands_k1))
@[go_sem] def mk_38 : List Bool := [K0,K0,K0,K0,K1,K0,K1,K0,K0,K0,K0,K0,K1,K1,K1,K1,K1,K1,K1,K1,K1,K1,K1,K1,K1,K1,K1,K1,K1,K1,K1,K1,K1,K1,K1,K1,K1,K1,K1,K1,K1,K1,K1,K1,K1,K1,K1,K1,K1,K1,K1,K1,K1,K1,K1,K1,K1,K1,K1,K1,K1,K1,K1,K1,K1,K1,K1,K1,K1,K1,K1]
def billingref24_sameBands_l2 : AC := .pre mk_38 billingref24_sameBands_l2b
@[go_sem] theorem billingref24_sameBands_l2_go : LoopRule billingref24_sameBands_l2 billingref24_sameBands_l2b mk_38 := loopRule
@[go_sem] theorem billingref24_sameBands_l2_lp : LpRule billingref24_sameBands_l2 billingref24_sameBands_l2b mk_38 := lpRule
def billingref24_sameBands_k2b : AC := (.seq (.reg [
 iK 4 (.bool true)])
 .ret)
def billingref24_sameBands_k2 : AC := .pre mk_36 billingref24_sameBands_k2b
def a_billingref24_sameBands : AF := ⟨71, (.seq (.reg [
 iK 4 (.bool false)])
 (.seq (.seq (.reg [
 iC 7 0,
 iO 8 (.len false (.t 7) (some 0)),
 iC 9 1,
 iO 10 (.len false (.t 9) (some 1)),
 iB 11 .neq 8 10])
 (.cond (.t 11) (.seq (.reg [
 iK 4 (.bool false)])
 .ret)
 .skip))
 (.seq (.seq (.reg [
 iK 5 (.int .i64 0)])
 (.blk 0 (.pre mk_35 (.loop billingref24_sameBands_l2))))
 billingref24_sameBands_k2))), [.tmp 4]⟩
@[go_sem] def mk_39 : List Bool := [K1,K1,K0,K0,K1,K1,K1,K1,K1,K1,K1,K1,K1,K1,K1,K1,K1,K1,K1,K1,K1,K1,K1,K1,K1,K1,K1]
def billingref24_sameRates_l1b : AC := (.seq (.seq (.reg [
 iM 11 5,
 iC 12 0,
 iO 13 (.len false (.t 12) (some 0)),
 iB 14 .lss 11 13])
 (.cond (.t 14) .skip
 (.exit 0)))
 (.seq (.blk 1 (.seq (.dreg [
 iC 17 0,
 iC 18 5,
 iO 19 (.ia (.t 17) (.t 18) 5 none (some 0)),
 iO 20 (.ld (.t 19) (some 5) false none),
 iC 21 1,
 iC 22 5,
 iO 23 (.ia (.t 21) (.t 22) 5 none (some 1)),
 iO 24 (.ld (.t 23) (some 5) false none),
 iO 25 (.call n_billingref24_SameRate [((.t 20), false), ((.t 24), false)] false),
 iO 26 (.un .not (.t 25))])
 (.cond (.t 26) (.seq (.reg [
 iK 4 (.bool false)])
 .ret)
 .skip)))
 (.reg [
 iM 15 5,
 iI 16 .add 15 1,
 iM 5 16])))
@[go_sem] def mk_40 : List Bool := [K0,K0,K0,K0,K1,K0,K0,K0,K0,K0,K0,K1,K1,K1,K1,K1,K1,K1,K1,K1,K1,K1,K1,K1,K1,K1,K1]
def billingref24_sameRates_l1 : AC := .pre mk_40 billingref24_sameRates_l1b
@[go_sem] theorem billingref24_sameRates_l1_go : LoopRule billingref24_sameRates_l1 billingref24_sameRates_l1b mk_40 := loopRule
@[go_sem] theorem billingref24_sameRates_l1_lp : LpRule billingref24_sameRates_l1 billingref24_sameRates_l1b mk_40 := lpRule
def billingref24_sameRates_k1b : AC := (.seq (.reg [
 iK 4 (.bool true)])
 .ret)
def billingref24_sameRates_k1 : AC := .pre mk_39 billingref24_sameRates_k1b
def a_billingref24_sameRates : AF := ⟨27, (.seq (.reg [
 iK 4 (.bool false)])
 (.seq (.seq (.reg [
 iC 6 0,
 iO 7 (.len false (.t 6) (some 0)),
 iC 8 1,
 iO 9 (.len false (.t 8) (some 1)),
 iB 10 .neq 7 9])
 (.cond (.t 10) (.seq (.reg [
 iK 4 (.bool false)])
 .ret)
 .skip))
 (.seq (.seq (.reg [
 iK 5 (.int .i64 0)])
 (.blk 0 (.pre mk_27 (.loop billingref24_sameRates_l1))))
 billingref24_sameRates_k1))), [.tmp 4]⟩
def g_parser_Expr_1 : AC := (.seq (.reg [
 iM 6 3,
 iO 7 (.un .plus (.t 6))])
 (.cond (.t 7) (.seq (.reg [
 iM 8 3,
 iO 9 (.call n_parser_caught [((.t 8), false)] false),
 iO 4 (.newbox [(.int .i64 0), (.int .i64 0)]),
 iN (.st (.t 4) (.t 9) 2 false (some 4))])
 (.dreg [
 iO 10 (.build [(.int .i64 0), (.int .i64 0), (.str []), (.sl false 4 [])] []),
 iO 11 (.fa (.t 4) 0 (some 4)),
 iO 12 (.ld (.t 11) none false (some 4)),
 iO 13 (.fa (.t 4) 1 (some 4)),
 iO 14 (.ld (.t 13) none false (some 4)),
 iN (.st (.t 0) (.t 10) 4 false none),
 iN (.st (.t 1) (.t 12) 1 false none),
 iN (.st (.t 2) (.t 14) 1 false none)]))
 .skip))
@[go_sem] def mk_41 : List Bool := [K0,K0,K0,K0,K1,K1]
@[go_sem] def mk_42 : List Bool := [K1,K0,K0,K0,K1,K1,K1,K1,K1,K1,K1,K1]
def parser_reader_either_l1b : AC := (.seq (.seq (.reg [
 iM 6 0,
 iO 7 (.call n_parser_reader_takeWord [((.t 6), false), ((.c (.str [111, 114])), false)] true)])
 (.cond (.t 7) .skip
 (.exit 0)))
 (.blk 1 (.preg [
 iO 8 (.ld (.t 3) (some 4) false (some 3)),
 iC 9 0,
 iO 10 (.call n_parser_reader_both [((.t 9), false)] true),
 iO 11 (.call n_parser_two [((.c (.int .i64 6)), false), ((.t 8), false), ((.t 10), false)] false),
 iN (.st (.t 3) (.t 11) 4 false (some 3))])))
@[go_sem] def mk_43 : List Bool := [K0,K0,K0,K0,K0,K0,K1,K1,K1,K1,K1,K1]
def parser_reader_either_l1 : AC := .pre mk_43 parser_reader_either_l1b
@[go_sem] theorem parser_reader_either_l1_go : LoopRule parser_reader_either_l1 parser_reader_either_l1b mk_43 := loopRule
@[go_sem] theorem parser_reader_either_l1_lp : LpRule parser_reader_either_l1 parser_reader_either_l1b mk_43 := lpRule
def parser_reader_either_k1b : AC := (.seq (.reg [
 iO 12 (.ld (.t 3) (some 4) false (some 3)),
 iN (.st (.t 2) (.t 12) 4 false (some 2))])
 .ret)
def parser_reader_either_k1 : AC := .pre mk_42 parser_reader_either_k1b
def a_parser_reader_either : AF := ⟨13, (.seq (.reg [
 iO 2 (.newbox [(.int .i64 0), (.int .i64 0), (.str []), (.sl false 4 [])])])
 (.seq (.reg [
 iM 4 0,
 iO 5 (.call n_parser_reader_both [((.t 4), false)] true),
 iO 3 (.newbox [(.int .i64 0), (.int .i64 0), (.str []), (.sl false 4 [])]),
 iN (.st (.t 3) (.t 5) 4 false (some 3))])
 (.seq (.blk 0 (.pre mk_41 (.loop parser_reader_either_l1)))
 parser_reader_either_k1))), [.cell 2 (some 4)]⟩
def g_lexer_Scan_1 : AC := (.seq (.reg [
 iM 7 3,
 iO 8 (.un .plus (.t 7))])
 (.cond (.t 8) (.seq (.reg [
 iM 10 3,
 iO 11 (.tas (.t 10) 66 true (.agg [(.int .i64 0), (.int .i64 0)])),
 iM 9 11,
 iO 12 (.ext 9 0),
 iO 13 (.ext 9 1),
 iO 4 (.newbox [(.int .i64 0), (.int .i64 0)]),
 iN (.st (.t 4) (.t 12) 2 false (some 4)),
 iM 5 13])
 (.seq (.seq (.reg [
 iM 14 5,
 iO 15 (.un .not (.t 14))])
 (.cond (.t 15) (.reg [
 iO 16 (.fa (.t 4) 1 (some 4)),
 iN (.st (.t 16) (.c (.int .i64 1)) 1 false (some 4))])
 .skip))
 (.dreg [
 iO 17 (.fa (.t 4) 0 (some 4)),
 iO 18 (.ld (.t 17) none false (some 4)),
 iO 19 (.fa (.t 4) 1 (some 4)),
 iO 20 (.ld (.t 19) none false (some 4)),
 iN (.st (.t 0) (.c (.sl false 4 [])) 1 false none),
 iN (.st (.t 1) (.t 18) 1 false none),
 iN (.st (.t 2) (.t 20) 1 false none)])))
 .skip))
def a_lexer_scanner_next : AF := ⟨47, (.seq (.reg [
 iO 2 (.newbox [(.int .i64 0), (.int .i64 0), (.int .i64 0), (.str [])])])
 (.seq (.reg [
 iM 4 0,
 iO 5 (.call n_lexer_scanner_blanks [((.t 4), false)] true)])
 (.seq (.seq (.dreg [
 iC 6 0,
 iO 7 (.nck (.t 6) none),
 iF 8 7 1,
 iL 9 8,
 iC 10 0,
 iO 11 (.nck (.t 10) none),
 iF 12 11 0,
 iL 13 12,
 iO 14 (.len true (.t 13) none),
 iB 15 .eql 9 14])
 (.cond (.t 15) (.seq (.reg [
 iM 16 0,
 iO 17 (.nck (.t 16) none),
 iF 18 17 1,
 iL 19 18,
 iO 20 (.build [(.int .i64 0), (.int .i64 0), (.int .i64 0), (.str [])] [(0, 1, (.c (.int .i64 0))), (2, 1, (.t 19))]),
 iN (.st (.t 2) (.t 20) 4 false (some 2))])
 .ret)
 .skip))
 (.seq (.dreg [
 iC 21 0,
 iO 22 (.nck (.t 21) none),
 iF 23 22 0,
 iL 24 23,
 iC 25 0,
 iO 26 (.nck (.t 25) none),
 iF 27 26 1,
 iL 28 27,
 iO 29 (.idx (.t 24) (.t 28) none 1 false),
 iC 3 29])
 (.seq (.blk 0 (.seq (.reg [
 iM 31 3,
 iO 32 (.call n_lexer_lower [((.t 31), false)] false),
 iM 30 32])
 (.cond (.t 30) (.seq (.reg [
 iM 33 0,
 iO 34 (.call n_lexer_scanner_word [((.t 33), false)] true),
 iN (.st (.t 2) (.t 34) 4 false (some 2))])
 .ret)
 (.seq (.reg [
 iM 36 3,
 iO 37 (.call n_lexer_digit [((.t 36), false)] false),
 iM 35 37])
 (.cond (.t 35) (.seq (.reg [
 iM 38 0,
 iO 39 (.call n_lexer_scanner_number [((.t 38), false)] true),
 iN (.st (.t 2) (.t 39) 4 false (some 2))])
 .ret)
 (.seq (.reg [
 iM 41 3,
 iO 42 (.bin .eql (.t 41) (.c (.int .u8 34))),
 iM 40 42])
 (.cond (.t 40) (.seq (.reg [
 iM 43 0,
 iO 44 (.call n_lexer_scanner_text [((.t 43), false)] true),
 iN (.st (.t 2) (.t 44) 4 false (some 2))])
 .ret)
 .skip)))))))
 (.seq (.reg [
 iM 45 0,
 iO 46 (.call n_lexer_scanner_symbol [((.t 45), false)] true),
 iN (.st (.t 2) (.t 46) 4 false (some 2))])
 .ret)))))), [.cell 2 (some 4)]⟩
def a_parser_reader_needWord : AF := ⟨11, (.seq (.reg [
 iM 4 0,
 iM 5 1,
 iO 6 (.call n_parser_reader_takeWord [((.t 4), false), ((.t 5), false)] true),
 iO 7 (.un .not (.t 6))])
 (.cond (.t 7) (.reg [
 iM 8 0,
 iO 9 (.call n_parser_reader_peek [((.t 8), false)] true),
 iO 10 (.call n_parser_fail [((.t 9), false), ((.c (.int .i64 1)), false)] false)])
 .skip)), []⟩
def a_parser_reader_name : AF := ⟨19, (.seq (.reg [
 iK 2 (.str [])])
 (.seq (.reg [
 iM 4 0,
 iO 5 (.call n_parser_reader_peek [((.t 4), false)] true),
 iO 3 (.newbox [(.int .i64 0), (.int .i64 0), (.int .i64 0), (.str [])]),
 iN (.st (.t 3) (.t 5) 4 false (some 3))])
 (.seq (.seq (.reg [
 iO 6 (.fa (.t 3) 0 (some 3)),
 iO 7 (.ld (.t 6) none false (some 3)),
 iI 8 .neq 7 1,
 iM 9 8,
 iG 10 (.fa (.t 3) 3 (some 3)) 9 false,
 iG 11 (.ld (.t 10) none false (some 3)) 9 false,
 iG 12 (.call n_lexer_Keyword [((.t 11), false)] false) 9 false,
 iO 13 (.pick (.t 9) (.c (.bool true)) (.t 12))])
 (.cond (.t 13) (.reg [
 iO 14 (.ld (.t 3) (some 4) false (some 3)),
 iO 15 (.call n_parser_fail [((.t 14), false), ((.c (.int .i64 1)), false)] false)])
 .skip))
 (.seq (.reg [
 iM 16 0,
 iO 17 (.call n_parser_reader_skip [((.t 16), false)] true),
 iO 18 (.fld (.t 17) 3 1 false),
 iM 2 18])
 .ret)))), [.tmp 2]⟩
def a_parser_reader_date : AF := ⟨33, (.seq (.reg [
 iK 2 (.int .i64 0)])
 (.seq (.reg [
 iM 7 0,
 iO 8 (.call n_parser_reader_peek [((.t 7), false)] true),
 iO 3 (.newbox [(.int .i64 0), (.int .i64 0), (.int .i64 0), (.str [])]),
 iN (.st (.t 3) (.t 8) 4 false (some 3))])
 (.seq (.reg [
 iO 4 (.newbox [(.int .i64 0), (.int .i64 0), (.int .i64 0)])])
 (.seq (.reg [
 iM 9 0,
 iO 10 (.call n_parser_reader_fixed [((.t 9), false), ((.c (.int .i64 4)), false), ((.c (.int .i64 9999)), false)] true),
 iO 11 (.fa (.t 4) 0 (some 4)),
 iN (.st (.t 11) (.t 10) 1 false (some 4))])
 (.seq (.reg [
 iM 12 0,
 iO 13 (.call n_parser_reader_needSymbol [((.t 12), false), ((.c (.str [45])), false)] true)])
 (.seq (.reg [
 iM 14 0,
 iO 15 (.call n_parser_reader_fixed [((.t 14), false), ((.c (.int .i64 2)), false), ((.c (.int .i64 99)), false)] true),
 iO 16 (.fa (.t 4) 1 (some 4)),
 iN (.st (.t 16) (.t 15) 1 false (some 4))])
 (.seq (.reg [
 iM 17 0,
 iO 18 (.call n_parser_reader_needSymbol [((.t 17), false), ((.c (.str [45])), false)] true)])
 (.seq (.reg [
 iM 19 0,
 iO 20 (.call n_parser_reader_fixed [((.t 19), false), ((.c (.int .i64 2)), false), ((.c (.int .i64 99)), false)] true),
 iO 21 (.fa (.t 4) 2 (some 4)),
 iN (.st (.t 21) (.t 20) 1 false (some 4))])
 (.seq (.reg [
 iO 23 (.ld (.t 4) (some 3) false (some 4)),
 iO 24 (.call n_calendar_Day [((.t 23), false)] false),
 iM 22 24,
 iO 25 (.ext 22 0),
 iO 26 (.ext 22 1),
 iM 5 25,
 iM 6 26])
 (.seq (.seq (.reg [
 iM 27 6,
 iI 28 .neq 27 0])
 (.cond (.t 28) (.reg [
 iO 29 (.ld (.t 3) (some 4) false (some 3)),
 iO 30 (.call n_parser_fail [((.t 29), false), ((.c (.int .i64 15)), false)] false)])
 .skip))
 (.seq (.reg [
 iM 31 5,
 iI 32 .mul 31 86400,
 iM 2 32])
 .ret))))))))))), [.tmp 2]⟩
def a_parser_reader_peek : AF := ⟨13, (.seq (.reg [
 iO 2 (.newbox [(.int .i64 0), (.int .i64 0), (.int .i64 0), (.str [])])])
 (.seq (.dreg [
 iC 3 0,
 iO 4 (.nck (.t 3) none),
 iF 5 4 0,
 iL 6 5,
 iC 7 0,
 iO 8 (.nck (.t 7) none),
 iF 9 8 1,
 iL 10 9,
 iO 11 (.ia (.t 6) (.t 10) 4 none none),
 iO 12 (.ld (.t 11) (some 4) false none),
 iN (.st (.t 2) (.t 12) 4 false (some 2))])
 .ret)), [.cell 2 (some 4)]⟩
def a_parser_reader_fixed : AF := ⟨31, (.seq (.reg [
 iK 6 (.int .i64 0)])
 (.seq (.reg [
 iM 8 0,
 iO 9 (.call n_parser_reader_peek [((.t 8), false)] true),
 iO 7 (.newbox [(.int .i64 0), (.int .i64 0), (.int .i64 0), (.str [])]),
 iN (.st (.t 7) (.t 9) 4 false (some 7))])
 (.seq (.seq (.reg [
 iO 10 (.fa (.t 7) 0 (some 7)),
 iO 11 (.ld (.t 10) none false (some 7)),
 iI 12 .neq 11 2,
 iM 13 12,
 iG 14 (.fa (.t 7) 3 (some 7)) 13 false,
 iG 15 (.ld (.t 14) none false (some 7)) 13 false,
 iG 16 (.len true (.t 15) none) 13 false,
 iG 17 (.mv (.t 1)) 13 false,
 iG 18 (.bin .neq (.t 16) (.t 17)) 13 false,
 iO 19 (.pick (.t 13) (.c (.bool true)) (.t 18)),
 iM 20 19,
 iG 21 (.fa (.t 7) 1 (some 7)) 20 false,
 iG 22 (.ld (.t 21) none false (some 7)) 20 false,
 iG 23 (.mv (.t 2)) 20 false,
 iG 24 (.bin .gtr (.t 22) (.t 23)) 20 false,
 iO 25 (.pick (.t 20) (.c (.bool true)) (.t 24))])
 (.cond (.t 25) (.reg [
 iO 26 (.ld (.t 7) (some 4) false (some 7)),
 iO 27 (.call n_parser_fail [((.t 26), false), ((.c (.int .i64 1)), false)] false)])
 .skip))
 (.seq (.reg [
 iM 28 0,
 iO 29 (.call n_parser_reader_skip [((.t 28), false)] true),
 iO 30 (.fld (.t 29) 1 1 false),
 iM 6 30])
 .ret)))), [.tmp 6]⟩
def a_parser_reader_needSymbol : AF := ⟨11, (.seq (.reg [
 iM 4 0,
 iM 5 1,
 iO 6 (.call n_parser_reader_takeSymbol [((.t 4), false), ((.t 5), false)] true),
 iO 7 (.un .not (.t 6))])
 (.cond (.t 7) (.reg [
 iM 8 0,
 iO 9 (.call n_parser_reader_peek [((.t 8), false)] true),
 iO 10 (.call n_parser_fail [((.t 9), false), ((.c (.int .i64 1)), false)] false)])
 .skip)), []⟩
def a_parser_reader_takeWord : AF := ⟨15, (.seq (.reg [
 iK 4 (.bool false)])
 (.seq (.seq (.reg [
 iM 5 0,
 iM 6 1,
 iO 7 (.call n_parser_reader_word [((.t 5), false), ((.t 6), false)] true)])
 (.cond (.t 7) (.seq (.reg [
 iM 8 0,
 iO 9 (.nck (.t 8) none),
 iF 10 9 1,
 iL 11 10,
 iI 12 .add 11 1,
 iO 13 (.nck (.t 8) none),
 iF 14 13 1,
 iN (.st (.t 14) (.t 12) 1 false none)])
 (.seq (.reg [
 iK 4 (.bool true)])
 .ret))
 .skip))
 (.seq (.reg [
 iK 4 (.bool false)])
 .ret))), [.tmp 4]⟩
@[go_sem] def mk_44 : List Bool := [K0,K0,K0,K0,K1,K1,K1,K1,K1,K1,K1,K1,K1,K1]
@[go_sem] def mk_45 : List Bool := [K0,K0,K0,K0,K1,K1,K1,K1,K1,K1,K1,K1,K1,K1,K1,K1,K1,K1,K1,K1,K1,K1,K1]
def parser_reader_zone_l1b : AC := (.seq (.seq (.reg [
 iM 14 0,
 iO 15 (.call n_parser_reader_takeSymbol [((.t 14), false), ((.c (.str [44])), false)] true)])
 (.cond (.t 15) .skip
 (.exit 0)))
 (.blk 1 (.preg [
 iO 16 (.fa (.t 3) 1 (some 3)),
 iO 17 (.ld (.t 16) none true (some 3)),
 iC 18 0,
 iO 19 (.call n_parser_reader_digits [((.t 18), false)] true),
 iO 20 (.bsl 1 1 (.str []) [(0, (.t 19))]),
 iO 21 (.app 1 16 (.t 17) (.t 20) none),
 iO 22 (.fa (.t 3) 1 (some 3)),
 iN (.st (.t 22) (.t 21) 1 true (some 3))])))
@[go_sem] def mk_46 : List Bool := [K0,K0,K0,K0,K0,K0,K0,K0,K0,K0,K0,K0,K0,K0,K1,K1,K1,K1,K1,K1,K1,K1,K1]
def parser_reader_zone_l1 : AC := .pre mk_46 parser_reader_zone_l1b
@[go_sem] theorem parser_reader_zone_l1_go : LoopRule parser_reader_zone_l1 parser_reader_zone_l1b mk_46 := loopRule
@[go_sem] theorem parser_reader_zone_l1_lp : LpRule parser_reader_zone_l1 parser_reader_zone_l1b mk_46 := lpRule
def parser_reader_zone_k1b : AC := (.seq (.reg [
 iM 23 0,
 iO 24 (.call n_parser_reader_needSymbol [((.t 23), false), ((.c (.str [59])), false)] true)])
 (.seq (.reg [
 iN (.cmb 3),
 iO 25 (.ld (.t 3) (some 2) false (some 3)),
 iN (.st (.t 2) (.t 25) 2 false (some 2))])
 .ret))
def parser_reader_zone_k1 : AC := .pre mk_45 parser_reader_zone_k1b
def a_parser_reader_zone : AF := ⟨26, (.seq (.reg [
 iO 2 (.newbox [(.str []), (.sl false 1 [])])])
 (.seq (.reg [
 iM 4 0,
 iO 5 (.call n_parser_reader_name [((.t 4), false)] true),
 iO 6 (.build [(.str []), (.sl false 0 [])] [(0, 1, (.t 5))]),
 iO 3 (.newbox [(.str []), (.sl true 1 [])]),
 iN (.st (.t 3) (.t 6) 2 false (some 3))])
 (.seq (.preg [
 iO 7 (.fa (.t 3) 1 (some 3)),
 iO 8 (.ld (.t 7) none true (some 3)),
 iC 9 0,
 iO 10 (.call n_parser_reader_digits [((.t 9), false)] true),
 iO 11 (.bsl 1 1 (.str []) [(0, (.t 10))]),
 iO 12 (.app 1 16 (.t 8) (.t 11) none),
 iO 13 (.fa (.t 3) 1 (some 3)),
 iN (.st (.t 13) (.t 12) 1 true (some 3))])
 (.seq (.blk 0 (.pre mk_44 (.loop parser_reader_zone_l1)))
 parser_reader_zone_k1)))), [.cell 2 (some 2)]⟩
@[go_sem] def mk_47 : List Bool := [K0,K0,K0,K0,K1,K1,K1,K1,K1,K1,K1,K1,K1,K1,K1,K1,K1]
def parser_reader_band_l1b : AC := (.seq (.seq (.reg [
 iM 17 0,
 iO 18 (.call n_parser_reader_takeSymbol [((.t 17), false), ((.c (.str [44])), false)] true)])
 (.cond (.t 18) .skip
 (.exit 0)))
 (.blk 1 (.preg [
 iO 19 (.fa (.t 3) 1 (some 3)),
 iO 20 (.ld (.t 19) none true (some 3)),
 iC 21 0,
 iO 22 (.call n_parser_reader_slot [((.t 21), false)] true),
 iO 23 (.bsl 3 1 (.agg [(.int .i64 0), (.int .i64 0), (.int .i64 0)]) [(0, (.t 22))]),
 iO 24 (.app 3 24 (.t 20) (.t 23) none),
 iO 25 (.fa (.t 3) 1 (some 3)),
 iN (.st (.t 25) (.t 24) 1 true (some 3))])))
@[go_sem] def mk_48 : List Bool := [K0,K0,K0,K0,K0,K0,K0,K0,K0,K0,K0,K0,K0,K0,K0,K0,K0,K1,K1,K1,K1,K1,K1,K1,K1,K1]
def parser_reader_band_l1 : AC := .pre mk_48 parser_reader_band_l1b
@[go_sem] theorem parser_reader_band_l1_go : LoopRule parser_reader_band_l1 parser_reader_band_l1b mk_48 := loopRule
@[go_sem] theorem parser_reader_band_l1_lp : LpRule parser_reader_band_l1 parser_reader_band_l1b mk_48 := lpRule
def parser_reader_band_k1b : AC := (.seq (.reg [
 iM 26 0,
 iO 27 (.call n_parser_reader_needSymbol [((.t 26), false), ((.c (.str [59])), false)] true)])
 (.seq (.reg [
 iN (.cmb 3),
 iO 28 (.ld (.t 3) (some 2) false (some 3)),
 iN (.st (.t 2) (.t 28) 2 false (some 2))])
 .ret))
def parser_reader_band_k1 : AC := .pre mk_20 parser_reader_band_k1b
def a_parser_reader_band : AF := ⟨29, (.seq (.reg [
 iO 2 (.newbox [(.str []), (.sl false 3 [])])])
 (.seq (.reg [
 iM 4 0,
 iO 5 (.call n_parser_reader_name [((.t 4), false)] true),
 iO 6 (.build [(.str []), (.sl false 0 [])] [(0, 1, (.t 5))]),
 iO 3 (.newbox [(.str []), (.sl true 3 [])]),
 iN (.st (.t 3) (.t 6) 2 false (some 3))])
 (.seq (.seq (.reg [
 iM 7 0,
 iO 8 (.call n_parser_reader_takeWord [((.t 7), false), ((.c (.str [111, 116, 104, 101, 114, 119, 105, 115, 101])), false)] true),
 iO 9 (.un .not (.t 8))])
 (.cond (.t 9) (.seq (.preg [
 iO 10 (.fa (.t 3) 1 (some 3)),
 iO 11 (.ld (.t 10) none true (some 3)),
 iC 12 0,
 iO 13 (.call n_parser_reader_slot [((.t 12), false)] true),
 iO 14 (.bsl 3 1 (.agg [(.int .i64 0), (.int .i64 0), (.int .i64 0)]) [(0, (.t 13))]),
 iO 15 (.app 3 24 (.t 11) (.t 14) none),
 iO 16 (.fa (.t 3) 1 (some 3)),
 iN (.st (.t 16) (.t 15) 1 true (some 3))])
 (.blk 0 (.pre mk_47 (.loop parser_reader_band_l1))))
 .skip))
 parser_reader_band_k1))), [.cell 2 (some 2)]⟩
def parser_reader_rate_l1b : AC := (.seq (.seq (.reg [
 iM 45 0,
 iO 46 (.call n_parser_reader_takeSymbol [((.t 45), false), ((.c (.str [44])), false)] true)])
 (.cond (.t 46) .skip
 (.exit 0)))
 (.blk 1 (.preg [
 iO 47 (.fa (.t 3) 4 (some 3)),
 iO 48 (.ld (.t 47) none true (some 3)),
 iC 49 0,
 iO 50 (.call n_parser_reader_step [((.t 49), false)] true),
 iO 51 (.bsl 3 1 (.agg [(.int .i64 0), (.int .i64 0), (.int .i64 0)]) [(0, (.t 50))]),
 iO 52 (.app 3 24 (.t 48) (.t 51) none),
 iO 53 (.fa (.t 3) 4 (some 3)),
 iN (.st (.t 53) (.t 52) 1 true (some 3))])))
def parser_reader_rate_l1 : AC := .pre mk_13 parser_reader_rate_l1b
@[go_sem] theorem parser_reader_rate_l1_go : LoopRule parser_reader_rate_l1 parser_reader_rate_l1b mk_13 := loopRule
@[go_sem] theorem parser_reader_rate_l1_lp : LpRule parser_reader_rate_l1 parser_reader_rate_l1b mk_13 := lpRule
def parser_reader_rate_k1b : AC := (.seq (.reg [
 iM 54 0,
 iO 55 (.call n_parser_reader_needSymbol [((.t 54), false), ((.c (.str [59])), false)] true)])
 (.seq (.reg [
 iN (.cmb 3),
 iO 56 (.ld (.t 3) (some 5) false (some 3)),
 iN (.st (.t 2) (.t 56) 5 false (some 2))])
 .ret))
def parser_reader_rate_k1 : AC := .pre mk_12 parser_reader_rate_k1b
def a_parser_reader_rate : AF := ⟨57, (.seq (.reg [
 iO 2 (.newbox [(.int .i64 0), (.str []), (.str []), (.int .i64 0), (.sl false 3 [])])])
 (.seq (.reg [
 iO 3 (.newbox [(.int .i64 0), (.str []), (.str []), (.int .i64 0), (.sl true 3 [])])])
 (.seq (.reg [
 iM 5 0,
 iO 6 (.call n_parser_reader_peek [((.t 5), false)] true),
 iO 4 (.newbox [(.int .i64 0), (.int .i64 0), (.int .i64 0), (.str [])]),
 iN (.st (.t 4) (.t 6) 4 false (some 4))])
 (.seq (.reg [
 iO 7 (.fa (.t 4) 3 (some 4)),
 iO 8 (.ld (.t 7) none false (some 4)),
 iO 9 (.call n_parser_kind [((.t 8), false)] false),
 iO 10 (.fa (.t 3) 0 (some 3)),
 iN (.st (.t 10) (.t 9) 1 false (some 3))])
 (.seq (.seq (.reg [
 iO 11 (.fa (.t 4) 0 (some 4)),
 iO 12 (.ld (.t 11) none false (some 4)),
 iI 13 .neq 12 1,
 iM 14 13,
 iG 15 (.fa (.t 3) 0 (some 3)) 14 false,
 iG 16 (.ld (.t 15) none false (some 3)) 14 false,
 iG 17 (.bin .eql (.t 16) (.c (.int .i64 0))) 14 false,
 iO 18 (.pick (.t 14) (.c (.bool true)) (.t 17))])
 (.cond (.t 18) (.reg [
 iO 19 (.ld (.t 4) (some 4) false (some 4)),
 iO 20 (.call n_parser_fail [((.t 19), false), ((.c (.int .i64 1)), false)] false)])
 .skip))
 (.seq (.reg [
 iM 21 0,
 iO 22 (.call n_parser_reader_skip [((.t 21), false)] true)])
 (.seq (.reg [
 iM 23 0,
 iO 24 (.call n_parser_reader_needWord [((.t 23), false), ((.c (.str [116, 111])), false)] true)])
 (.seq (.reg [
 iM 25 0,
 iO 26 (.call n_parser_reader_nameOrAny [((.t 25), false)] true),
 iO 27 (.fa (.t 3) 1 (some 3)),
 iN (.st (.t 27) (.t 26) 1 false (some 3))])
 (.seq (.reg [
 iM 28 0,
 iO 29 (.call n_parser_reader_needWord [((.t 28), false), ((.c (.str [105, 110])), false)] true)])
 (.seq (.reg [
 iM 30 0,
 iO 31 (.call n_parser_reader_nameOrAny [((.t 30), false)] true),
 iO 32 (.fa (.t 3) 2 (some 3)),
 iN (.st (.t 32) (.t 31) 1 false (some 3))])
 (.seq (.seq (.reg [
 iM 33 0,
 iO 34 (.call n_parser_reader_takeWord [((.t 33), false), ((.c (.str [115, 101, 116, 117, 112])), false)] true)])
 (.cond (.t 34) (.reg [
 iM 35 0,
 iO 36 (.call n_parser_reader_number [((.t 35), false)] true),
 iO 37 (.fa (.t 3) 3 (some 3)),
 iN (.st (.t 37) (.t 36) 1 false (some 3))])
 .skip))
 (.seq (.preg [
 iO 38 (.fa (.t 3) 4 (some 3)),
 iO 39 (.ld (.t 38) none true (some 3)),
 iC 40 0,
 iO 41 (.call n_parser_reader_step [((.t 40), false)] true),
 iO 42 (.bsl 3 1 (.agg [(.int .i64 0), (.int .i64 0), (.int .i64 0)]) [(0, (.t 41))]),
 iO 43 (.app 3 24 (.t 39) (.t 42) none),
 iO 44 (.fa (.t 3) 4 (some 3)),
 iN (.st (.t 44) (.t 43) 1 true (some 3))])
 (.seq (.blk 0 (.pre mk_8 (.loop parser_reader_rate_l1)))
 parser_reader_rate_k1))))))))))))), [.cell 2 (some 5)]⟩
def a_parser_reader_discount : AF := ⟨20, (.seq (.reg [
 iO 2 (.newbox [(.str []), (.int .i64 0), (.int .i64 0), (.str []), (.sl false 4 []), (.int .i64 0)])])
 (.seq (.reg [
 iM 4 0,
 iO 5 (.call n_parser_reader_name [((.t 4), false)] true),
 iO 6 (.build [(.str []), (.int .i64 0), (.int .i64 0), (.str []), (.sl false 4 []), (.int .i64 0)] [(0, 1, (.t 5))]),
 iO 3 (.newbox [(.str []), (.int .i64 0), (.int .i64 0), (.str []), (.sl false 4 []), (.int .i64 0)]),
 iN (.st (.t 3) (.t 6) 6 false (some 3))])
 (.seq (.reg [
 iM 7 0,
 iO 8 (.call n_parser_reader_number [((.t 7), false)] true),
 iO 9 (.fa (.t 3) 5 (some 3)),
 iN (.st (.t 9) (.t 8) 1 false (some 3))])
 (.seq (.reg [
 iM 10 0,
 iO 11 (.call n_parser_reader_needWord [((.t 10), false), ((.c (.str [112, 111, 105, 110, 116, 115])), false)] true)])
 (.seq (.reg [
 iM 12 0,
 iO 13 (.call n_parser_reader_needWord [((.t 12), false), ((.c (.str [119, 104, 101, 110])), false)] true)])
 (.seq (.reg [
 iM 14 0,
 iO 15 (.call n_parser_reader_either [((.t 14), false)] true),
 iO 16 (.fa (.t 3) 1 (some 3)),
 iN (.st (.t 16) (.t 15) 4 false (some 3))])
 (.seq (.reg [
 iM 17 0,
 iO 18 (.call n_parser_reader_needSymbol [((.t 17), false), ((.c (.str [59])), false)] true)])
 (.seq (.reg [
 iO 19 (.ld (.t 3) (some 6) false (some 3)),
 iN (.st (.t 2) (.t 19) 6 false (some 2))])
 .ret)))))))), [.cell 2 (some 6)]⟩
def a_parser_fail : AF := ⟨9, (.seq (.reg [
 iO 2 (.boxr (.t 0))])
 (.reg [
 iF 4 2 2,
 iL 5 4,
 iM 6 1,
 iO 7 (.build [(.int .i64 0), (.int .i64 0)] [(0, 1, (.t 5)), (1, 1, (.t 6))]),
 iO 8 (.mki 43 (.t 7)),
 iN (.pan (.t 8))])), []⟩
@[go_sem] def mk_49 : List Bool := [K0,K0,K0,K0,K1,K1,K1,K1,K1,K1,K1,K1,K1,K0,K0,K0,K0,K0,K0,K0,K0,K0,K0,K0,K0,K1,K1,K1,K1,K1,K1,K1,K1,K1,K1,K1,K1,K1,K1,K1,K1,K1,K1,K1]
@[go_sem] def mk_50 : List Bool := [K0,K0,K0,K0,K1,K1,K1,K1,K1,K1,K1,K1,K1,K1,K1,K1,K1,K1,K1,K1,K1,K1,K1,K1,K1,K1,K1,K1,K1,K1,K1,K1,K1,K1,K1,K1,K1,K1,K1,K1,K1,K1,K1,K1]
@[go_sem] def mk_51 : List Bool := [K1,K0,K0,K0,K1,K1,K1,K1,K1,K1,K1,K1,K1,K1,K1,K1,K1,K1,K1,K1,K1,K1,K1,K1,K1,K1,K1,K1,K1,K1,K1,K1,K1,K1,K1,K1,K1,K1,K1,K1,K1,K1,K1,K1]
def billingref23_Skip_l1b : AC := (.seq (.seq (.reg [
 iM 13 1,
 iM 14 0,
 iO 15 (.len true (.t 14) none),
 iB 16 .lss 13 15,
 iM 17 16,
 iG 18 (.mv (.t 0)) 17 true,
 iG 19 (.mv (.t 1)) 17 true,
 iG 20 (.idx (.t 18) (.t 19) none 1 false) 17 true,
 iG 21 (.bin .neq (.t 20) (.c (.int .u8 10))) 17 true,
 iO 22 (.pick (.t 17) (.t 21) (.c (.bool false)))])
 (.cond (.t 22) .skip
 (.exit 2)))
 (.blk 3 (.reg [
 iM 23 1,
 iI 24 .add 23 1,
 iM 1 24])))
@[go_sem] def mk_52 : List Bool := [K0,K0,K0,K0,K0,K0,K0,K0,K0,K0,K0,K0,K0,K1,K1,K1,K1,K1,K1,K1,K1,K1,K1,K1,K1]
def billingref23_Skip_l1 : AC := .pre mk_52 billingref23_Skip_l1b
@[go_sem] theorem billingref23_Skip_l1_go : LoopRule billingref23_Skip_l1 billingref23_Skip_l1b mk_52 := loopRule
@[go_sem] theorem billingref23_Skip_l1_lp : LpRule billingref23_Skip_l1 billingref23_Skip_l1b mk_52 := lpRule
def billingref23_Skip_k1b : AC := (.exit 1)
def billingref23_Skip_k1 : AC := .pre mk_50 billingref23_Skip_k1b
def billingref23_Skip_k2b : AC := (.seq (.seq (.reg [
 iM 25 0,
 iM 26 1,
 iO 27 (.idx (.t 25) (.t 26) none 1 false),
 iO 28 (.bin .neq (.t 27) (.c (.int .u8 32))),
 iM 29 28,
 iG 30 (.mv (.t 0)) 29 true,
 iG 31 (.mv (.t 1)) 29 true,
 iG 32 (.idx (.t 30) (.t 31) none 1 false) 29 true,
 iG 33 (.bin .neq (.t 32) (.c (.int .u8 9))) 29 true,
 iO 34 (.pick (.t 29) (.t 33) (.c (.bool false))),
 iM 35 34,
 iG 36 (.mv (.t 0)) 35 true,
 iG 37 (.mv (.t 1)) 35 true,
 iG 38 (.idx (.t 36) (.t 37) none 1 false) 35 true,
 iG 39 (.bin .neq (.t 38) (.c (.int .u8 10))) 35 true,
 iO 40 (.pick (.t 35) (.t 39) (.c (.bool false)))])
 (.cond (.t 40) (.seq (.reg [
 iM 41 1,
 iM 4 41])
 .ret)
 .skip))
 (.reg [
 iM 42 1,
 iI 43 .add 42 1,
 iM 1 43]))
def billingref23_Skip_k2 : AC := .pre mk_50 billingref23_Skip_k2b
def billingref23_Skip_l2b : AC := (.seq (.seq (.reg [
 iM 5 1,
 iM 6 0,
 iO 7 (.len true (.t 6) none),
 iB 8 .lss 5 7])
 (.cond (.t 8) .skip
 (.exit 0)))
 (.blk 1 (.seq (.seq (.reg [
 iM 9 0,
 iM 10 1,
 iO 11 (.idx (.t 9) (.t 10) none 1 false),
 iO 12 (.bin .eql (.t 11) (.c (.int .u8 35)))])
 (.cond (.t 12) (.seq (.blk 2 (.pre mk_49 (.loop billingref23_Skip_l1)))
 billingref23_Skip_k1)
 .skip))
 billingref23_Skip_k2)))
def billingref23_Skip_l2 : AC := .pre mk_50 billingref23_Skip_l2b
@[go_sem] theorem billingref23_Skip_l2_go : LoopRule billingref23_Skip_l2 billingref23_Skip_l2b mk_50 := loopRule
@[go_sem] theorem billingref23_Skip_l2_lp : LpRule billingref23_Skip_l2 billingref23_Skip_l2b mk_50 := lpRule
def billingref23_Skip_k3b : AC := (.seq (.reg [
 iM 44 1,
 iM 4 44])
 .ret)
def billingref23_Skip_k3 : AC := .pre mk_51 billingref23_Skip_k3b
def a_billingref23_Skip : AF := ⟨45, (.seq (.reg [
 iK 4 (.int .i64 0)])
 (.seq (.blk 0 (.loop billingref23_Skip_l2))
 billingref23_Skip_k3)), [.tmp 4]⟩
def a_billingref23_token : AF := ⟨41, (.seq (.reg [
 iO 4 (.newbox [(.int .i64 0), (.int .i64 0), (.int .i64 0), (.str [])]),
 iK 5 (.int .i64 0),
 iK 6 (.int .i64 0)])
 (.seq (.reg [
 iM 8 0,
 iM 9 1,
 iO 10 (.idx (.t 8) (.t 9) none 1 false),
 iM 7 10])
 (.seq (.seq (.reg [
 iM 11 7,
 iO 12 (.call n_billingref23_Lower [((.t 11), false)] false)])
 (.cond (.t 12) (.seq (.reg [
 iM 13 0,
 iM 14 1,
 iO 15 (.call n_billingref23_word [((.t 13), false), ((.t 14), false)] false),
 iO 16 (.ext 15 0),
 iO 17 (.ext 15 1),
 iO 18 (.ext 15 2),
 iN (.st (.t 4) (.t 16) 4 false (some 4)),
 iM 5 17,
 iM 6 18])
 .ret)
 .skip))
 (.seq (.seq (.reg [
 iM 19 7,
 iO 20 (.call n_billingref23_Digit [((.t 19), false)] false)])
 (.cond (.t 20) (.seq (.reg [
 iM 21 0,
 iM 22 1,
 iO 23 (.call n_billingref23_number [((.t 21), false), ((.t 22), false)] false),
 iO 24 (.ext 23 0),
 iO 25 (.ext 23 1),
 iO 26 (.ext 23 2),
 iN (.st (.t 4) (.t 24) 4 false (some 4)),
 iM 5 25,
 iM 6 26])
 .ret)
 .skip))
 (.seq (.seq (.reg [
 iM 27 7,
 iO 28 (.bin .eql (.t 27) (.c (.int .u8 34)))])
 (.cond (.t 28) (.seq (.reg [
 iM 29 0,
 iM 30 1,
 iO 31 (.call n_billingref23_text [((.t 29), false), ((.t 30), false)] false),
 iO 32 (.ext 31 0),
 iO 33 (.ext 31 1),
 iO 34 (.ext 31 2),
 iN (.st (.t 4) (.t 32) 4 false (some 4)),
 iM 5 33,
 iM 6 34])
 .ret)
 .skip))
 (.seq (.reg [
 iM 35 0,
 iM 36 1,
 iO 37 (.call n_billingref23_symbol [((.t 35), false), ((.t 36), false)] false),
 iO 38 (.ext 37 0),
 iO 39 (.ext 37 1),
 iO 40 (.ext 37 2),
 iN (.st (.t 4) (.t 38) 4 false (some 4)),
 iM 5 39,
 iM 6 40])
 .ret)))))), [.cell 4 (some 4), .tmp 5, .tmp 6]⟩
def a_billingref24_Reader_expect : AF := ⟨10, (.seq (.reg [
 iM 4 0,
 iM 5 1,
 iO 6 (.call n_billingref24_Reader_accept [((.t 4), false), ((.t 5), false)] true),
 iO 7 (.un .not (.t 6))])
 (.cond (.t 7) (.reg [
 iM 8 0,
 iO 9 (.call n_billingref24_Reader_fail [((.t 8), false), ((.c (.int .i64 1)), false)] true)])
 .skip)), []⟩
def a_billingref24_Reader_name : AF := ⟨15, (.seq (.reg [
 iK 2 (.str [])])
 (.seq (.reg [
 iM 4 0,
 iO 5 (.call n_billingref24_Reader_now [((.t 4), false)] true),
 iO 6 (.fld (.t 5) 3 1 false),
 iM 3 6])
 (.seq (.seq (.reg [
 iM 7 0,
 iO 8 (.call n_billingref24_Reader_plain [((.t 7), false)] true),
 iO 9 (.un .not (.t 8))])
 (.cond (.t 9) (.seq (.reg [
 iM 10 0,
 iO 11 (.call n_billingref24_Reader_fail [((.t 10), false), ((.c (.int .i64 1)), false)] true)])
 (.seq (.reg [
 iK 2 (.str [])])
 .ret))
 .skip))
 (.seq (.reg [
 iM 12 0,
 iO 13 (.call n_billingref24_Reader_next [((.t 12), false)] true)])
 (.seq (.reg [
 iM 14 3,
 iM 2 14])
 .ret))))), [.tmp 2]⟩
def a_billingref24_Reader_date : AF := ⟨49, (.seq (.reg [
 iK 2 (.int .i64 0)])
 (.seq (.reg [
 iM 9 0,
 iO 10 (.nck (.t 9) none),
 iF 11 10 1,
 iL 12 11,
 iM 3 12])
 (.seq (.reg [
 iM 13 0,
 iO 14 (.call n_billingref24_Reader_digits [((.t 13), false), ((.c (.int .i64 4)), false), ((.c (.int .i64 9999999999999999)), false)] true),
 iO 15 (.fld (.t 14) 1 1 false),
 iM 4 15])
 (.seq (.reg [
 iM 16 0,
 iO 17 (.call n_billingref24_Reader_expect [((.t 16), false), ((.c (.str [45])), false)] true)])
 (.seq (.reg [
 iM 18 0,
 iO 19 (.call n_billingref24_Reader_digits [((.t 18), false), ((.c (.int .i64 2)), false), ((.c (.int .i64 9999999999999999)), false)] true),
 iO 20 (.fld (.t 19) 1 1 false),
 iM 5 20])
 (.seq (.reg [
 iM 21 0,
 iO 22 (.call n_billingref24_Reader_expect [((.t 21), false), ((.c (.str [45])), false)] true)])
 (.seq (.reg [
 iM 23 0,
 iO 24 (.call n_billingref24_Reader_digits [((.t 23), false), ((.c (.int .i64 2)), false), ((.c (.int .i64 9999999999999999)), false)] true),
 iO 25 (.fld (.t 24) 1 1 false),
 iM 6 25])
 (.seq (.reg [
 iM 27 4,
 iM 28 5,
 iM 29 6,
 iO 30 (.call n_billingref24_Day [((.t 27), false), ((.t 28), false), ((.t 29), false)] false),
 iM 26 30,
 iO 31 (.ext 26 0),
 iO 32 (.ext 26 1),
 iM 7 31,
 iM 8 32])
 (.seq (.seq (.reg [
 iM 33 0,
 iO 34 (.nck (.t 33) none),
 iF 35 34 2,
 iL 36 35,
 iI 37 .eql 36 0,
 iM 38 37,
 iG 39 (.mv (.t 8)) 38 true,
 iG 40 (.un .not (.t 39)) 38 true,
 iO 41 (.pick (.t 38) (.t 40) (.c (.bool false)))])
 (.cond (.t 41) (.seq (.reg [
 iM 42 0,
 iM 43 3,
 iO 44 (.nck (.t 42) none),
 iF 45 44 1,
 iN (.st (.t 45) (.t 43) 1 false none)])
 (.reg [
 iM 46 0,
 iO 47 (.call n_billingref24_Reader_fail [((.t 46), false), ((.c (.int .i64 15)), false)] true)]))
 .skip))
 (.seq (.reg [
 iM 48 7,
 iM 2 48])
 .ret)))))))))), [.tmp 2]⟩
def a_billingref24_Reader_clock : AF := ⟨37, (.seq (.reg [
 iK 2 (.int .i64 0)])
 (.seq (.seq (.reg [
 iM 6 0,
 iO 7 (.nck (.t 6) none),
 iF 8 7 2,
 iL 9 8,
 iI 10 .neq 9 0,
 iM 11 10,
 iG 12 (.mv (.t 0)) 11 false,
 iG 13 (.call n_billingref24_Reader_now [((.t 12), false)] true) 11 false,
 iG 14 (.fld (.t 13) 0 1 false) 11 false,
 iG 15 (.bin .neq (.t 14) (.c (.int .i64 2))) 11 false,
 iO 16 (.pick (.t 11) (.c (.bool true)) (.t 15))])
 (.cond (.t 16) (.seq (.reg [
 iK 2 (.int .i64 0)])
 .ret)
 .skip))
 (.seq (.reg [
 iM 17 0,
 iO 18 (.call n_billingref24_Reader_digits [((.t 17), false), ((.c (.int .i64 2)), false), ((.c (.int .i64 23)), false)] true),
 iO 19 (.fld (.t 18) 1 1 false),
 iM 3 19])
 (.seq (.reg [
 iM 20 0,
 iO 21 (.call n_billingref24_Reader_expect [((.t 20), false), ((.c (.str [58])), false)] true)])
 (.seq (.reg [
 iM 22 0,
 iO 23 (.call n_billingref24_Reader_digits [((.t 22), false), ((.c (.int .i64 2)), false), ((.c (.int .i64 59)), false)] true),
 iO 24 (.fld (.t 23) 1 1 false),
 iM 4 24])
 (.seq (.reg [
 iM 25 0,
 iO 26 (.call n_billingref24_Reader_expect [((.t 25), false), ((.c (.str [58])), false)] true)])
 (.seq (.reg [
 iM 27 0,
 iO 28 (.call n_billingref24_Reader_digits [((.t 27), false), ((.c (.int .i64 2)), false), ((.c (.int .i64 59)), false)] true),
 iO 29 (.fld (.t 28) 1 1 false),
 iM 5 29])
 (.seq (.reg [
 iM 30 3,
 iO 31 (.bin .mul (.c (.int .i64 3600)) (.t 30)),
 iM 32 4,
 iO 33 (.bin .mul (.c (.int .i64 60)) (.t 32)),
 iB 34 .add 31 33,
 iM 35 5,
 iB 36 .add 34 35,
 iM 2 36])
 .ret)))))))), [.tmp 2]⟩
def a_billingref24_Reader_accept : AF := ⟨10, (.seq (.reg [
 iK 4 (.bool false)])
 (.seq (.seq (.reg [
 iM 5 0,
 iM 6 1,
 iO 7 (.call n_billingref24_Reader_is [((.t 5), false), ((.t 6), false)] true)])
 (.cond (.t 7) (.seq (.reg [
 iM 8 0,
 iO 9 (.call n_billingref24_Reader_next [((.t 8), false)] true)])
 (.seq (.reg [
 iK 4 (.bool true)])
 .ret))
 .skip))
 (.seq (.reg [
 iK 4 (.bool false)])
 .ret))), [.tmp 4]⟩
@[go_sem] def mk_53 : List Bool := [K0,K0,K0,K0,K1,K1,K1,K1,K1,K1,K1,K1,K1,K1,K1]
@[go_sem] def mk_54 : List Bool := [K0,K0,K0,K0,K1,K1,K1,K1,K1,K1,K1,K1,K1,K1,K1,K1,K1,K1,K1,K1,K1,K1,K1,K1,K1]
def billingref24_Reader_zone_l1b : AC := (.seq (.seq (.reg [
 iM 15 0,
 iO 16 (.call n_billingref24_Reader_accept [((.t 15), false), ((.c (.str [44])), false)] true)])
 (.cond (.t 16) .skip
 (.exit 0)))
 (.blk 1 (.dreg [
 iO 17 (.fa (.t 3) 1 (some 3)),
 iO 18 (.ld (.t 17) none true (some 3)),
 iC 19 0,
 iO 20 (.call n_billingref24_Reader_digits [((.t 19), false), ((.c (.int .i64 0)), false), ((.c (.int .i64 9999999999999999)), false)] true),
 iO 21 (.fld (.t 20) 3 1 false),
 iO 22 (.bsl 1 1 (.str []) [(0, (.t 21))]),
 iO 23 (.app 1 16 (.t 18) (.t 22) none),
 iO 24 (.fa (.t 3) 1 (some 3)),
 iN (.st (.t 24) (.t 23) 1 true (some 3))])))
@[go_sem] def mk_55 : List Bool := [K0,K0,K0,K0,K0,K0,K0,K0,K0,K0,K0,K0,K0,K0,K0,K1,K1,K1,K1,K1,K1,K1,K1,K1,K1]
def billingref24_Reader_zone_l1 : AC := .pre mk_55 billingref24_Reader_zone_l1b
@[go_sem] theorem billingref24_Reader_zone_l1_go : LoopRule billingref24_Reader_zone_l1 billingref24_Reader_zone_l1b mk_55 := loopRule
@[go_sem] theorem billingref24_Reader_zone_l1_lp : LpRule billingref24_Reader_zone_l1 billingref24_Reader_zone_l1b mk_55 := lpRule
def billingref24_Reader_zone_k1b : AC := (.seq (.reg [
 iM 25 0,
 iO 26 (.call n_billingref24_Reader_expect [((.t 25), false), ((.c (.str [59])), false)] true)])
 (.seq (.reg [
 iN (.cmb 3),
 iO 27 (.ld (.t 3) (some 2) false (some 3)),
 iN (.st (.t 2) (.t 27) 2 false (some 2))])
 .ret))
def billingref24_Reader_zone_k1 : AC := .pre mk_54 billingref24_Reader_zone_k1b
def a_billingref24_Reader_zone : AF := ⟨28, (.seq (.reg [
 iO 2 (.newbox [(.str []), (.sl false 1 [])])])
 (.seq (.reg [
 iM 4 0,
 iO 5 (.call n_billingref24_Reader_name [((.t 4), false)] true),
 iO 6 (.build [(.str []), (.sl false 0 [])] [(0, 1, (.t 5))]),
 iO 3 (.newbox [(.str []), (.sl true 1 [])]),
 iN (.st (.t 3) (.t 6) 2 false (some 3))])
 (.seq (.dreg [
 iO 7 (.fa (.t 3) 1 (some 3)),
 iO 8 (.ld (.t 7) none true (some 3)),
 iC 9 0,
 iO 10 (.call n_billingref24_Reader_digits [((.t 9), false), ((.c (.int .i64 0)), false), ((.c (.int .i64 9999999999999999)), false)] true),
 iO 11 (.fld (.t 10) 3 1 false),
 iO 12 (.bsl 1 1 (.str []) [(0, (.t 11))]),
 iO 13 (.app 1 16 (.t 8) (.t 12) none),
 iO 14 (.fa (.t 3) 1 (some 3)),
 iN (.st (.t 14) (.t 13) 1 true (some 3))])
 (.seq (.blk 0 (.pre mk_53 (.loop billingref24_Reader_zone_l1)))
 billingref24_Reader_zone_k1)))), [.cell 2 (some 2)]⟩
@[go_sem] def mk_56 : List Bool := [K0,K0,K0,K0,K1,K1,K1,K1,K1,K1,K1,K1,K1,K1,K1,K1,K1,K1,K1]
@[go_sem] def mk_57 : List Bool := [K0,K0,K0,K0,K1,K1,K1,K1,K1,K1,K1,K1,K1,K1,K1,K1,K1,K1,K1,K1,K1,K1,K1,K1,K1,K1,K1,K1]
def billingref24_Reader_band_l1b : AC := (.seq (.seq (.reg [
 iM 19 0,
 iO 20 (.call n_billingref24_Reader_accept [((.t 19), false), ((.c (.str [44])), false)] true)])
 (.cond (.t 20) .skip
 (.exit 0)))
 (.blk 1 (.dreg [
 iO 21 (.fa (.t 3) 1 (some 3)),
 iO 22 (.ld (.t 21) none true (some 3)),
 iC 23 0,
 iO 24 (.call n_billingref24_Reader_slot [((.t 23), false)] true),
 iO 25 (.bsl 3 1 (.agg [(.int .i64 0), (.int .i64 0), (.int .i64 0)]) [(0, (.t 24))]),
 iO 26 (.app 3 24 (.t 22) (.t 25) none),
 iO 27 (.fa (.t 3) 1 (some 3)),
 iN (.st (.t 27) (.t 26) 1 true (some 3))])))
@[go_sem] def mk_58 : List Bool := [K0,K0,K0,K0,K0,K0,K0,K0,K0,K0,K0,K0,K0,K0,K0,K0,K0,K0,K0,K1,K1,K1,K1,K1,K1,K1,K1,K1]
def billingref24_Reader_band_l1 : AC := .pre mk_58 billingref24_Reader_band_l1b
@[go_sem] theorem billingref24_Reader_band_l1_go : LoopRule billingref24_Reader_band_l1 billingref24_Reader_band_l1b mk_58 := loopRule
@[go_sem] theorem billingref24_Reader_band_l1_lp : LpRule billingref24_Reader_band_l1 billingref24_Reader_band_l1b mk_58 := lpRule
def billingref24_Reader_band_k1b : AC := (.seq (.reg [
 iM 28 0,
 iO 29 (.call n_billingref24_Reader_expect [((.t 28), false), ((.c (.str [59])), false)] true)])
 (.seq (.reg [
 iN (.cmb 3),
 iO 30 (.ld (.t 3) (some 2) false (some 3)),
 iN (.st (.t 2) (.t 30) 2 false (some 2))])
 .ret))
def billingref24_Reader_band_k1 : AC := .pre mk_57 billingref24_Reader_band_k1b
def a_billingref24_Reader_band : AF := ⟨31, (.seq (.reg [
 iO 2 (.newbox [(.str []), (.sl false 3 [])])])
 (.seq (.reg [
 iM 4 0,
 iO 5 (.call n_billingref24_Reader_name [((.t 4), false)] true),
 iO 6 (.build [(.str []), (.sl false 0 [])] [(0, 1, (.t 5))]),
 iO 3 (.newbox [(.str []), (.sl true 3 [])]),
 iN (.st (.t 3) (.t 6) 2 false (some 3))])
 (.seq (.seq (.reg [
 iM 7 0,
 iO 8 (.call n_billingref24_Reader_accept [((.t 7), false), ((.c (.str [111, 116, 104, 101, 114, 119, 105, 115, 101])), false)] true)])
 (.cond (.t 8) (.seq (.reg [
 iM 9 0,
 iO 10 (.call n_billingref24_Reader_expect [((.t 9), false), ((.c (.str [59])), false)] true)])
 (.seq (.reg [
 iN (.cmb 3),
 iO 11 (.ld (.t 3) (some 2) false (some 3)),
 iN (.st (.t 2) (.t 11) 2 false (some 2))])
 .ret))
 .skip))
 (.seq (.dreg [
 iO 12 (.fa (.t 3) 1 (some 3)),
 iO 13 (.ld (.t 12) none true (some 3)),
 iC 14 0,
 iO 15 (.call n_billingref24_Reader_slot [((.t 14), false)] true),
 iO 16 (.bsl 3 1 (.agg [(.int .i64 0), (.int .i64 0), (.int .i64 0)]) [(0, (.t 15))]),
 iO 17 (.app 3 24 (.t 13) (.t 16) none),
 iO 18 (.fa (.t 3) 1 (some 3)),
 iN (.st (.t 18) (.t 17) 1 true (some 3))])
 (.seq (.blk 0 (.pre mk_56 (.loop billingref24_Reader_band_l1)))
 billingref24_Reader_band_k1))))), [.cell 2 (some 2)]⟩
@[go_sem] def mk_59 : List Bool := [K0,K0,K0,K0,K1,K1,K1,K1,K1,K1,K1,K1,K1,K1,K1,K1,K1,K1,K1,K1,K1,K1,K1,K1,K1,K1,K1,K1,K1,K1,K1]
@[go_sem] def mk_60 : List Bool := [K0,K0,K0,K0,K1,K1,K1,K1,K1,K1,K1,K1,K1,K1,K1,K1,K1,K1,K1,K1,K1,K1,K1,K1,K1,K1,K1,K1,K1,K1,K1,K1,K1,K1,K1,K1,K1,K1,K1,K1]
def billingref24_Reader_rate_l1b : AC := (.seq (.seq (.reg [
 iM 31 0,
 iO 32 (.call n_billingref24_Reader_accept [((.t 31), false), ((.c (.str [44])), false)] true)])
 (.cond (.t 32) .skip
 (.exit 0)))
 (.blk 1 (.dreg [
 iO 33 (.fa (.t 3) 4 (some 3)),
 iO 34 (.ld (.t 33) none true (some 3)),
 iC 35 0,
 iO 36 (.call n_billingref24_Reader_step [((.t 35), false)] true),
 iO 37 (.bsl 3 1 (.agg [(.int .i64 0), (.int .i64 0), (.int .i64 0)]) [(0, (.t 36))]),
 iO 38 (.app 3 24 (.t 34) (.t 37) none),
 iO 39 (.fa (.t 3) 4 (some 3)),
 iN (.st (.t 39) (.t 38) 1 true (some 3))])))
@[go_sem] def mk_61 : List Bool := [K0,K0,K0,K0,K0,K0,K0,K0,K0,K0,K0,K0,K0,K0,K0,K0,K0,K0,K0,K0,K0,K0,K0,K0,K0,K0,K0,K0,K0,K0,K0,K1,K1,K1,K1,K1,K1,K1,K1,K1]
def billingref24_Reader_rate_l1 : AC := .pre mk_61 billingref24_Reader_rate_l1b
@[go_sem] theorem billingref24_Reader_rate_l1_go : LoopRule billingref24_Reader_rate_l1 billingref24_Reader_rate_l1b mk_61 := loopRule
@[go_sem] theorem billingref24_Reader_rate_l1_lp : LpRule billingref24_Reader_rate_l1 billingref24_Reader_rate_l1b mk_61 := lpRule
def billingref24_Reader_rate_k1b : AC := (.seq (.reg [
 iM 40 0,
 iO 41 (.call n_billingref24_Reader_expect [((.t 40), false), ((.c (.str [59])), false)] true)])
 (.seq (.reg [
 iN (.cmb 3),
 iO 42 (.ld (.t 3) (some 5) false (some 3)),
 iN (.st (.t 2) (.t 42) 5 false (some 2))])
 .ret))
def billingref24_Reader_rate_k1 : AC := .pre mk_60 billingref24_Reader_rate_k1b
def a_billingref24_Reader_rate : AF := ⟨43, (.seq (.reg [
 iO 2 (.newbox [(.int .i64 0), (.str []), (.str []), (.int .i64 0), (.sl false 3 [])])])
 (.seq (.reg [
 iM 4 0,
 iO 5 (.call n_billingref24_Kinds [] false),
 iS 5,
 iS 5,
 iO 6 (.call n_billingref24_Reader_word [((.t 4), false), ((.t 5), false), ((.c (.int .i64 0)), false)] true),
 iO 7 (.bin .add (.c (.int .i64 1)) (.t 6)),
 iO 8 (.build [(.int .i64 0), (.str []), (.str []), (.int .i64 0), (.sl false 0 [])] [(0, 1, (.t 7))]),
 iO 3 (.newbox [(.int .i64 0), (.str []), (.str []), (.int .i64 0), (.sl true 3 [])]),
 iN (.st (.t 3) (.t 8) 5 false (some 3))])
 (.seq (.reg [
 iM 9 0,
 iO 10 (.call n_billingref24_Reader_expect [((.t 9), false), ((.c (.str [116, 111])), false)] true)])
 (.seq (.reg [
 iM 11 0,
 iO 12 (.call n_billingref24_Reader_either [((.t 11), false)] true),
 iO 13 (.fa (.t 3) 1 (some 3)),
 iN (.st (.t 13) (.t 12) 1 false (some 3))])
 (.seq (.reg [
 iM 14 0,
 iO 15 (.call n_billingref24_Reader_expect [((.t 14), false), ((.c (.str [105, 110])), false)] true)])
 (.seq (.reg [
 iM 16 0,
 iO 17 (.call n_billingref24_Reader_either [((.t 16), false)] true),
 iO 18 (.fa (.t 3) 2 (some 3)),
 iN (.st (.t 18) (.t 17) 1 false (some 3))])
 (.seq (.seq (.reg [
 iM 19 0,
 iO 20 (.call n_billingref24_Reader_accept [((.t 19), false), ((.c (.str [115, 101, 116, 117, 112])), false)] true)])
 (.cond (.t 20) (.reg [
 iM 21 0,
 iO 22 (.call n_billingref24_Reader_number [((.t 21), false)] true),
 iO 23 (.fa (.t 3) 3 (some 3)),
 iN (.st (.t 23) (.t 22) 1 false (some 3))])
 .skip))
 (.seq (.dreg [
 iO 24 (.fa (.t 3) 4 (some 3)),
 iO 25 (.ld (.t 24) none true (some 3)),
 iC 26 0,
 iO 27 (.call n_billingref24_Reader_step [((.t 26), false)] true),
 iO 28 (.bsl 3 1 (.agg [(.int .i64 0), (.int .i64 0), (.int .i64 0)]) [(0, (.t 27))]),
 iO 29 (.app 3 24 (.t 25) (.t 28) none),
 iO 30 (.fa (.t 3) 4 (some 3)),
 iN (.st (.t 30) (.t 29) 1 true (some 3))])
 (.seq (.blk 0 (.pre mk_59 (.loop billingref24_Reader_rate_l1)))
 billingref24_Reader_rate_k1))))))))), [.cell 2 (some 5)]⟩
def a_billingref24_Reader_discount : AF := ⟨20, (.seq (.reg [
 iO 2 (.newbox [(.str []), (.int .i64 0), (.int .i64 0), (.str []), (.sl false 4 []), (.int .i64 0)])])
 (.seq (.reg [
 iM 4 0,
 iO 5 (.call n_billingref24_Reader_name [((.t 4), false)] true),
 iO 6 (.build [(.str []), (.int .i64 0), (.int .i64 0), (.str []), (.sl false 4 []), (.int .i64 0)] [(0, 1, (.t 5))]),
 iO 3 (.newbox [(.str []), (.int .i64 0), (.int .i64 0), (.str []), (.sl false 4 []), (.int .i64 0)]),
 iN (.st (.t 3) (.t 6) 6 false (some 3))])
 (.seq (.reg [
 iM 7 0,
 iO 8 (.call n_billingref24_Reader_number [((.t 7), false)] true),
 iO 9 (.fa (.t 3) 5 (some 3)),
 iN (.st (.t 9) (.t 8) 1 false (some 3))])
 (.seq (.reg [
 iM 10 0,
 iO 11 (.call n_billingref24_Reader_expect [((.t 10), false), ((.c (.str [112, 111, 105, 110, 116, 115])), false)] true)])
 (.seq (.reg [
 iM 12 0,
 iO 13 (.call n_billingref24_Reader_expect [((.t 12), false), ((.c (.str [119, 104, 101, 110])), false)] true)])
 (.seq (.reg [
 iM 14 0,
 iO 15 (.call n_billingref24_Reader_expr [((.t 14), false)] true),
 iO 16 (.fa (.t 3) 1 (some 3)),
 iN (.st (.t 16) (.t 15) 4 false (some 3))])
 (.seq (.reg [
 iM 17 0,
 iO 18 (.call n_billingref24_Reader_expect [((.t 17), false), ((.c (.str [59])), false)] true)])
 (.seq (.reg [
 iO 19 (.ld (.t 3) (some 6) false (some 3)),
 iN (.st (.t 2) (.t 19) 6 false (some 2))])
 .ret)))))))), [.cell 2 (some 6)]⟩
def a_billingref24_Reader_fail : AF := ⟨13, (.seq (.reg [
 iM 4 0,
 iO 5 (.nck (.t 4) none),
 iF 6 5 2,
 iL 7 6,
 iI 8 .eql 7 0])
 (.cond (.t 8) (.reg [
 iM 9 0,
 iM 10 1,
 iO 11 (.nck (.t 9) none),
 iF 12 11 2,
 iN (.st (.t 12) (.t 10) 1 false none)])
 .skip)), []⟩
def a_billingref24_SameRate : AF := ⟨38, (.seq (.reg [
 iO 2 (.boxr (.t 0)),
 iO 3 (.boxr (.t 1)),
 iK 4 (.bool false)])
 (.seq (.reg [
 iF 5 2 0,
 iL 6 5,
 iF 7 3 0,
 iL 8 7,
 iB 9 .eql 6 8,
 iM 10 9,
 iG 11 (.fa (.t 2) 1 none) 10 true,
 iG 12 (.ld (.t 11) none false none) 10 true,
 iG 13 (.fa (.t 3) 1 none) 10 true,
 iG 14 (.ld (.t 13) none false none) 10 true,
 iG 15 (.bin .eql (.t 12) (.t 14)) 10 true,
 iO 16 (.pick (.t 10) (.t 15) (.c (.bool false))),
 iM 17 16,
 iG 18 (.fa (.t 2) 2 none) 17 true,
 iG 19 (.ld (.t 18) none false none) 17 true,
 iG 20 (.fa (.t 3) 2 none) 17 true,
 iG 21 (.ld (.t 20) none false none) 17 true,
 iG 22 (.bin .eql (.t 19) (.t 21)) 17 true,
 iO 23 (.pick (.t 17) (.t 22) (.c (.bool false))),
 iM 24 23,
 iG 25 (.fa (.t 2) 3 none) 24 true,
 iG 26 (.ld (.t 25) none false none) 24 true,
 iG 27 (.fa (.t 3) 3 none) 24 true,
 iG 28 (.ld (.t 27) none false none) 24 true,
 iG 29 (.bin .eql (.t 26) (.t 28)) 24 true,
 iO 30 (.pick (.t 24) (.t 29) (.c (.bool false))),
 iM 31 30,
 iG 32 (.fa (.t 2) 4 none) 31 true,
 iG 33 (.ld (.t 32) none false none) 31 true,
 iG 34 (.fa (.t 3) 4 none) 31 true,
 iG 35 (.ld (.t 34) none false none) 31 true,
 iG 36 (.call n_billingref24_SameSteps [((.t 33), false), ((.t 35), false)] false) 31 true,
 iO 37 (.pick (.t 31) (.t 36) (.c (.bool false))),
 iM 4 37])
 .ret)), [.tmp 4]⟩
def parser_reader_both_l1b : AC := (.seq (.seq (.reg [
 iM 6 0,
 iO 7 (.call n_parser_reader_takeWord [((.t 6), false), ((.c (.str [97, 110, 100])), false)] true)])
 (.cond (.t 7) .skip
 (.exit 0)))
 (.blk 1 (.preg [
 iO 8 (.ld (.t 3) (some 4) false (some 3)),
 iC 9 0,
 iO 10 (.call n_parser_reader_negated [((.t 9), false)] true),
 iO 11 (.call n_parser_two [((.c (.int .i64 5)), false), ((.t 8), false), ((.t 10), false)] false),
 iN (.st (.t 3) (.t 11) 4 false (some 3))])))
def parser_reader_both_l1 : AC := .pre mk_43 parser_reader_both_l1b
@[go_sem] theorem parser_reader_both_l1_go : LoopRule parser_reader_both_l1 parser_reader_both_l1b mk_43 := loopRule
@[go_sem] theorem parser_reader_both_l1_lp : LpRule parser_reader_both_l1 parser_reader_both_l1b mk_43 := lpRule
def parser_reader_both_k1b : AC := (.seq (.reg [
 iO 12 (.ld (.t 3) (some 4) false (some 3)),
 iN (.st (.t 2) (.t 12) 4 false (some 2))])
 .ret)
def parser_reader_both_k1 : AC := .pre mk_42 parser_reader_both_k1b
def a_parser_reader_both : AF := ⟨13, (.seq (.reg [
 iO 2 (.newbox [(.int .i64 0), (.int .i64 0), (.str []), (.sl false 4 [])])])
 (.seq (.reg [
 iM 4 0,
 iO 5 (.call n_parser_reader_negated [((.t 4), false)] true),
 iO 3 (.newbox [(.int .i64 0), (.int .i64 0), (.str []), (.sl false 4 [])]),
 iN (.st (.t 3) (.t 5) 4 false (some 3))])
 (.seq (.blk 0 (.pre mk_41 (.loop parser_reader_both_l1)))
 parser_reader_both_k1))), [.cell 2 (some 4)]⟩
def a_parser_two : AF := ⟨12, (.seq (.reg [
 iO 4 (.boxr (.t 1)),
 iO 5 (.boxr (.t 2)),
 iO 6 (.newbox [(.int .i64 0), (.int .i64 0), (.str []), (.sl false 4 [])])])
 (.seq (.reg [
 iM 7 0,
 iO 8 (.ld (.t 4) (some 4) false none),
 iO 9 (.ld (.t 5) (some 4) false none),
 iO 10 (.bsl 4 2 (.agg [(.int .i64 0), (.int .i64 0), (.str []), (.sl false 4 [])]) [(0, (.t 8)), (1, (.t 9))]),
 iS 10,
 iO 11 (.build [(.int .i64 0), (.int .i64 0), (.str []), (.sl false 4 [])] [(0, 1, (.t 7)), (3, 1, (.t 10))]),
 iN (.st (.t 6) (.t 11) 4 false (some 6))])
 .ret)), [.cell 6 (some 4)]⟩
@[go_sem] def mk_62 : List Bool := [K0,K0,K1,K1,K1,K1,K1,K1,K1,K1,K1,K1,K1,K1,K1,K1,K1,K1,K1,K1,K1,K1,K1,K1,K1,K1,K1,K1,K1,K1,K1,K1,K1,K1]
def lexer_scanner_blanks_l1b : AC := (.seq (.seq (.dreg [
 iC 34 0,
 iO 35 (.nck (.t 34) none),
 iF 36 35 1,
 iL 37 36,
 iC 38 0,
 iO 39 (.nck (.t 38) none),
 iF 40 39 0,
 iL 41 40,
 iO 42 (.len true (.t 41) none),
 iB 43 .lss 37 42,
 iC 44 43,
 iG 45 (.cp (.t 0)) 44 true,
 iG 46 (.nck (.t 45) none) 44 true,
 iG 47 (.fa (.t 46) 0 none) 44 true,
 iG 48 (.ld (.t 47) none false none) 44 true,
 iG 49 (.cp (.t 0)) 44 true,
 iG 50 (.nck (.t 49) none) 44 true,
 iG 51 (.fa (.t 50) 1 none) 44 true,
 iG 52 (.ld (.t 51) none false none) 44 true,
 iG 53 (.idx (.t 48) (.t 52) none 1 false) 44 true,
 iG 54 (.bin .neq (.t 53) (.c (.int .u8 10))) 44 true,
 iO 55 (.pick (.t 44) (.t 54) (.c (.bool false)))])
 (.cond (.t 55) .skip
 (.exit 3)))
 (.blk 4 (.reg [
 iM 56 0,
 iO 57 (.nck (.t 56) none),
 iF 58 57 1,
 iL 59 58,
 iI 60 .add 59 1,
 iO 61 (.nck (.t 56) none),
 iF 62 61 1,
 iN (.st (.t 62) (.t 60) 1 false none)])))
@[go_sem] def mk_63 : List Bool := [K0,K0,K0,K0,K0,K0,K0,K0,K0,K0,K0,K0,K0,K0,K0,K0,K0,K0,K0,K0,K0,K0,K0,K0,K0,K0,K0,K0,K0,K0,K0,K0,K0,K0,K1,K1,K1,K1,K1,K1,K1,K1,K1,K1,K1,K1,K1,K1,K1,K1,K1,K1,K1,K1,K1,K1,K1,K1,K1,K1,K1,K1,K1]
def lexer_scanner_blanks_l1 : AC := .pre mk_63 lexer_scanner_blanks_l1b
@[go_sem] theorem lexer_scanner_blanks_l1_go : LoopRule lexer_scanner_blanks_l1 lexer_scanner_blanks_l1b mk_63 := loopRule
@[go_sem] theorem lexer_scanner_blanks_l1_lp : LpRule lexer_scanner_blanks_l1 lexer_scanner_blanks_l1b mk_63 := lpRule
def lexer_scanner_blanks_l2b : AC := (.seq (.seq (.dreg [
 iC 2 0,
 iO 3 (.nck (.t 2) none),
 iF 4 3 1,
 iL 5 4,
 iC 6 0,
 iO 7 (.nck (.t 6) none),
 iF 8 7 0,
 iL 9 8,
 iO 10 (.len true (.t 9) none),
 iB 11 .lss 5 10])
 (.cond (.t 11) .skip
 (.exit 0)))
 (.blk 1 (.seq (.dreg [
 iC 12 0,
 iO 13 (.nck (.t 12) none),
 iF 14 13 0,
 iL 15 14,
 iC 16 0,
 iO 17 (.nck (.t 16) none),
 iF 18 17 1,
 iL 19 18,
 iO 20 (.idx (.t 15) (.t 19) none 1 false)])
 (.blk 2 (.seq (.seq (.reg [
 iO 22 (.bin .eql (.t 20) (.c (.int .u8 32))),
 iM 21 22])
 (.cond (.t 21) .skip
 (.seq (.reg [
 iO 23 (.bin .eql (.t 20) (.c (.int .u8 9))),
 iM 21 23])
 (.cond (.t 21) .skip
 (.reg [
 iO 24 (.bin .eql (.t 20) (.c (.int .u8 10))),
 iM 21 24])))))
 (.cond (.t 21) (.reg [
 iM 25 0,
 iO 26 (.nck (.t 25) none),
 iF 27 26 1,
 iL 28 27,
 iI 29 .add 28 1,
 iO 30 (.nck (.t 25) none),
 iF 31 30 1,
 iN (.st (.t 31) (.t 29) 1 false none)])
 (.seq (.reg [
 iO 33 (.bin .eql (.t 20) (.c (.int .u8 35))),
 iM 32 33])
 (.cond (.t 32) (.blk 3 (.pre mk_62 (.loop lexer_scanner_blanks_l1)))
 .ret))))))))
@[go_sem] def mk_64 : List Bool := [K0,K0,K1,K1,K1,K1,K1,K1,K1,K1,K1,K1,K1,K1,K1,K1,K1,K1,K1,K1,K1,K1,K1,K1,K1,K1,K1,K1,K1,K1,K1,K1,K1,K1,K1,K1,K1,K1,K1,K1,K1,K1,K1,K1,K1,K1,K1,K1,K1,K1,K1,K1,K1,K1,K1,K1,K1,K1,K1,K1,K1,K1,K1]
def lexer_scanner_blanks_l2 : AC := .pre mk_64 lexer_scanner_blanks_l2b
@[go_sem] theorem lexer_scanner_blanks_l2_go : LoopRule lexer_scanner_blanks_l2 lexer_scanner_blanks_l2b mk_64 := loopRule
@[go_sem] theorem lexer_scanner_blanks_l2_lp : LpRule lexer_scanner_blanks_l2 lexer_scanner_blanks_l2b mk_64 := lpRule
def a_lexer_scanner_blanks : AF := ⟨63, (.blk 0 (.loop lexer_scanner_blanks_l2)), []⟩
def a_lexer_lower : AF := ⟨9, (.seq (.reg [
 iK 2 (.bool false)])
 (.seq (.reg [
 iM 3 0,
 iO 4 (.bin .geq (.t 3) (.c (.int .u8 97))),
 iM 5 4,
 iG 6 (.mv (.t 0)) 5 true,
 iG 7 (.bin .leq (.t 6) (.c (.int .u8 122))) 5 true,
 iO 8 (.pick (.t 5) (.t 7) (.c (.bool false))),
 iM 2 8])
 .ret)), [.tmp 2]⟩
@[go_sem] def mk_65 : List Bool := [K0,K0,K0,K0,K1,K1,K1,K1]
@[go_sem] def mk_66 : List Bool := [K0,K0,K0,K0,K1,K1,K1,K1,K1,K1,K1,K1,K1,K1,K1,K1,K1,K1,K1,K1,K1,K1,K1,K1,K1,K1,K1,K1,K1,K1,K1,K1,K1,K1,K1,K1,K1,K1,K1,K1,K1,K1,K1,K1,K1,K1,K1,K1,K1,K1,K1,K1,K1,K1,K1,K1,K1,K1,K1,K1,K1]
def lexer_scanner_word_l1b : AC := (.seq (.seq (.dreg [
 iC 8 0,
 iO 9 (.nck (.t 8) none),
 iF 10 9 1,
 iL 11 10,
 iC 12 0,
 iO 13 (.nck (.t 12) none),
 iF 14 13 0,
 iL 15 14,
 iO 16 (.len true (.t 15) none),
 iB 17 .lss 11 16,
 iC 18 17,
 iG 19 (.cp (.t 0)) 18 true,
 iG 20 (.nck (.t 19) none) 18 true,
 iG 21 (.fa (.t 20) 0 none) 18 true,
 iG 22 (.ld (.t 21) none false none) 18 true,
 iG 23 (.cp (.t 0)) 18 true,
 iG 24 (.nck (.t 23) none) 18 true,
 iG 25 (.fa (.t 24) 1 none) 18 true,
 iG 26 (.ld (.t 25) none false none) 18 true,
 iG 27 (.idx (.t 22) (.t 26) none 1 false) 18 true,
 iG 28 (.call n_lexer_lower [((.t 27), false)] false) 18 true,
 iG 29 (.cp (.t 28)) 18 true,
 iG 30 (.cp (.t 0)) 29 false,
 iG 31 (.nck (.t 30) none) 29 false,
 iG 32 (.fa (.t 31) 0 none) 29 false,
 iG 33 (.ld (.t 32) none false none) 29 false,
 iG 34 (.cp (.t 0)) 29 false,
 iG 35 (.nck (.t 34) none) 29 false,
 iG 36 (.fa (.t 35) 1 none) 29 false,
 iG 37 (.ld (.t 36) none false none) 29 false,
 iG 38 (.idx (.t 33) (.t 37) none 1 false) 29 false,
 iG 39 (.call n_lexer_digit [((.t 38), false)] false) 29 false,
 iG 40 (.pick (.t 29) (.c (.bool true)) (.t 39)) 18 true,
 iG 41 (.cp (.t 40)) 18 true,
 iG 42 (.cp (.t 0)) 41 false,
 iG 43 (.nck (.t 42) none) 41 false,
 iG 44 (.fa (.t 43) 0 none) 41 false,
 iG 45 (.ld (.t 44) none false none) 41 false,
 iG 46 (.cp (.t 0)) 41 false,
 iG 47 (.nck (.t 46) none) 41 false,
 iG 48 (.fa (.t 47) 1 none) 41 false,
 iG 49 (.ld (.t 48) none false none) 41 false,
 iG 50 (.idx (.t 45) (.t 49) none 1 false) 41 false,
 iG 51 (.bin .eql (.t 50) (.c (.int .u8 45))) 41 false,
 iG 52 (.pick (.t 41) (.c (.bool true)) (.t 51)) 18 true,
 iO 53 (.pick (.t 18) (.t 52) (.c (.bool false)))])
 (.cond (.t 53) .skip
 (.exit 0)))
 (.blk 1 (.reg [
 iM 54 0,
 iO 55 (.nck (.t 54) none),
 iF 56 55 1,
 iL 57 56,
 iI 58 .add 57 1,
 iO 59 (.nck (.t 54) none),
 iF 60 59 1,
 iN (.st (.t 60) (.t 58) 1 false none)])))
@[go_sem] def mk_67 : List Bool := [K0,K0,K0,K0,K0,K0,K0,K0,K1,K1,K1,K1,K1,K1,K1,K1,K1,K1,K1,K1,K1,K1,K1,K1,K1,K1,K1,K1,K1,K1,K1,K1,K1,K1,K1,K1,K1,K1,K1,K1,K1,K1,K1,K1,K1,K1,K1,K1,K1,K1,K1,K1,K1,K1,K1,K1,K1,K1,K1,K1,K1]
def lexer_scanner_word_l1 : AC := .pre mk_67 lexer_scanner_word_l1b
@[go_sem] theorem lexer_scanner_word_l1_go : LoopRule lexer_scanner_word_l1 lexer_scanner_word_l1b mk_67 := loopRule
@[go_sem] theorem lexer_scanner_word_l1_lp : LpRule lexer_scanner_word_l1 lexer_scanner_word_l1b mk_67 := lpRule
def lexer_scanner_word_k1b : AC := (.seq (.seq (.reg [
 iM 61 0,
 iO 62 (.nck (.t 61) none),
 iF 63 62 1,
 iL 64 63,
 iM 65 3,
 iB 66 .sub 64 65,
 iI 67 .gtr 66 24])
 (.cond (.t 67) (.reg [
 iM 68 3,
 iO 69 (.call n_lexer_fail [((.t 68), false), ((.c (.int .i64 5)), false)] false)])
 .skip))
 (.seq (.dreg [
 iC 70 3,
 iC 71 0,
 iO 72 (.nck (.t 71) none),
 iF 73 72 0,
 iL 74 73,
 iC 75 3,
 iC 76 0,
 iO 77 (.nck (.t 76) none),
 iF 78 77 1,
 iL 79 78,
 iO 80 (.slc none (.t 74) (some (.t 75)) (some (.t 79)) none),
 iO 81 (.build [(.int .i64 0), (.int .i64 0), (.int .i64 0), (.str [])] [(0, 1, (.c (.int .i64 1))), (2, 1, (.t 70)), (3, 1, (.t 80))]),
 iN (.st (.t 2) (.t 81) 4 false (some 2))])
 .ret))
def lexer_scanner_word_k1 : AC := .pre mk_66 lexer_scanner_word_k1b
def a_lexer_scanner_word : AF := ⟨82, (.seq (.reg [
 iO 2 (.newbox [(.int .i64 0), (.int .i64 0), (.int .i64 0), (.str [])])])
 (.seq (.reg [
 iM 4 0,
 iO 5 (.nck (.t 4) none),
 iF 6 5 1,
 iL 7 6,
 iM 3 7])
 (.seq (.blk 0 (.pre mk_65 (.loop lexer_scanner_word_l1)))
 lexer_scanner_word_k1))), [.cell 2 (some 4)]⟩
def a_lexer_digit : AF := ⟨9, (.seq (.reg [
 iK 2 (.bool false)])
 (.seq (.reg [
 iM 3 0,
 iO 4 (.bin .geq (.t 3) (.c (.int .u8 48))),
 iM 5 4,
 iG 6 (.mv (.t 0)) 5 true,
 iG 7 (.bin .leq (.t 6) (.c (.int .u8 57))) 5 true,
 iO 8 (.pick (.t 5) (.t 7) (.c (.bool false))),
 iM 2 8])
 .ret)), [.tmp 2]⟩
@[go_sem] def mk_68 : List Bool := [K0,K0,K0,K0,K0,K1,K1,K1,K1]
@[go_sem] def mk_69 : List Bool := [K0,K0,K0,K0,K0,K1,K1,K1,K1,K1,K1,K1,K1,K1,K1,K1,K1,K1,K1,K1,K1,K1,K1,K1,K1,K1,K1,K1,K1,K1,K1,K1,K1,K1,K1,K1,K1,K1,K1,K1,K1,K1,K1,K1,K1,K1,K1,K1,K1,K1,K1,K1,K1,K1,K1,K1,K1,K1,K1]
def lexer_scanner_number_l1b : AC := (.seq (.seq (.dreg [
 iC 9 0,
 iO 10 (.nck (.t 9) none),
 iF 11 10 1,
 iL 12 11,
 iC 13 0,
 iO 14 (.nck (.t 13) none),
 iF 15 14 0,
 iL 16 15,
 iO 17 (.len true (.t 16) none),
 iB 18 .lss 12 17,
 iC 19 18,
 iG 20 (.cp (.t 0)) 19 true,
 iG 21 (.nck (.t 20) none) 19 true,
 iG 22 (.fa (.t 21) 0 none) 19 true,
 iG 23 (.ld (.t 22) none false none) 19 true,
 iG 24 (.cp (.t 0)) 19 true,
 iG 25 (.nck (.t 24) none) 19 true,
 iG 26 (.fa (.t 25) 1 none) 19 true,
 iG 27 (.ld (.t 26) none false none) 19 true,
 iG 28 (.idx (.t 23) (.t 27) none 1 false) 19 true,
 iG 29 (.call n_lexer_digit [((.t 28), false)] false) 19 true,
 iO 30 (.pick (.t 19) (.t 29) (.c (.bool false)))])
 (.cond (.t 30) .skip
 (.exit 0)))
 (.blk 1 (.seq (.seq (.reg [
 iM 31 0,
 iO 32 (.nck (.t 31) none),
 iF 33 32 1,
 iL 34 33,
 iM 35 3,
 iB 36 .sub 34 35,
 iI 37 .lss 36 16])
 (.cond (.t 37) (.dreg [
 iC 38 4,
 iI 39 .mul 38 10,
 iC 40 0,
 iO 41 (.nck (.t 40) none),
 iF 42 41 0,
 iL 43 42,
 iC 44 0,
 iO 45 (.nck (.t 44) none),
 iF 46 45 1,
 iL 47 46,
 iO 48 (.idx (.t 43) (.t 47) none 1 false),
 iO 49 (.bin .sub (.t 48) (.c (.int .u8 48))),
 iO 50 (.cvi .i64 (.t 49)),
 iB 51 .add 39 50,
 iC 4 51])
 .skip))
 (.reg [
 iM 52 0,
 iO 53 (.nck (.t 52) none),
 iF 54 53 1,
 iL 55 54,
 iI 56 .add 55 1,
 iO 57 (.nck (.t 52) none),
 iF 58 57 1,
 iN (.st (.t 58) (.t 56) 1 false none)]))))
@[go_sem] def mk_70 : List Bool := [K0,K0,K0,K0,K0,K0,K0,K0,K0,K1,K1,K1,K1,K1,K1,K1,K1,K1,K1,K1,K1,K1,K1,K1,K1,K1,K1,K1,K1,K1,K1,K1,K1,K1,K1,K1,K1,K1,K1,K1,K1,K1,K1,K1,K1,K1,K1,K1,K1,K1,K1,K1,K1,K1,K1,K1,K1,K1,K1]
def lexer_scanner_number_l1 : AC := .pre mk_70 lexer_scanner_number_l1b
@[go_sem] theorem lexer_scanner_number_l1_go : LoopRule lexer_scanner_number_l1 lexer_scanner_number_l1b mk_70 := loopRule
@[go_sem] theorem lexer_scanner_number_l1_lp : LpRule lexer_scanner_number_l1 lexer_scanner_number_l1b mk_70 := lpRule
def lexer_scanner_number_k1b : AC := (.seq (.seq (.reg [
 iM 59 0,
 iO 60 (.nck (.t 59) none),
 iF 61 60 1,
 iL 62 61,
 iM 63 3,
 iB 64 .sub 62 63,
 iI 65 .gtr 64 16])
 (.cond (.t 65) (.reg [
 iM 66 3,
 iO 67 (.call n_lexer_fail [((.t 66), false), ((.c (.int .i64 5)), false)] false)])
 .skip))
 (.seq (.seq (.dreg [
 iC 68 0,
 iO 69 (.nck (.t 68) none),
 iF 70 69 1,
 iL 71 70,
 iC 72 0,
 iO 73 (.nck (.t 72) none),
 iF 74 73 0,
 iL 75 74,
 iO 76 (.len true (.t 75) none),
 iB 77 .lss 71 76,
 iC 78 77,
 iG 79 (.cp (.t 0)) 78 true,
 iG 80 (.nck (.t 79) none) 78 true,
 iG 81 (.fa (.t 80) 0 none) 78 true,
 iG 82 (.ld (.t 81) none false none) 78 true,
 iG 83 (.cp (.t 0)) 78 true,
 iG 84 (.nck (.t 83) none) 78 true,
 iG 85 (.fa (.t 84) 1 none) 78 true,
 iG 86 (.ld (.t 85) none false none) 78 true,
 iG 87 (.idx (.t 82) (.t 86) none 1 false) 78 true,
 iG 88 (.call n_lexer_lower [((.t 87), false)] false) 78 true,
 iO 89 (.pick (.t 78) (.t 88) (.c (.bool false)))])
 (.cond (.t 89) (.reg [
 iM 90 3,
 iO 91 (.call n_lexer_fail [((.t 90), false), ((.c (.int .i64 1)), false)] false)])
 .skip))
 (.seq (.dreg [
 iC 92 4,
 iC 93 3,
 iC 94 0,
 iO 95 (.nck (.t 94) none),
 iF 96 95 0,
 iL 97 96,
 iC 98 3,
 iC 99 0,
 iO 100 (.nck (.t 99) none),
 iF 101 100 1,
 iL 102 101,
 iO 103 (.slc none (.t 97) (some (.t 98)) (some (.t 102)) none),
 iO 104 (.build [(.int .i64 0), (.int .i64 0), (.int .i64 0), (.str [])] [(0, 1, (.c (.int .i64 2))), (1, 1, (.t 92)), (2, 1, (.t 93)), (3, 1, (.t 103))]),
 iN (.st (.t 2) (.t 104) 4 false (some 2))])
 .ret)))
def lexer_scanner_number_k1 : AC := .pre mk_69 lexer_scanner_number_k1b
def a_lexer_scanner_number : AF := ⟨105, (.seq (.reg [
 iO 2 (.newbox [(.int .i64 0), (.int .i64 0), (.int .i64 0), (.str [])])])
 (.seq (.reg [
 iM 5 0,
 iO 6 (.nck (.t 5) none),
 iF 7 6 1,
 iL 8 7,
 iM 3 8])
 (.seq (.reg [
 iK 4 (.int .i64 0)])
 (.seq (.blk 0 (.pre mk_68 (.loop lexer_scanner_number_l1)))
 lexer_scanner_number_k1)))), [.cell 2 (some 4)]⟩
@[go_sem] def mk_71 : List Bool := [K0,K0,K0,K0,K0,K1,K1,K1,K1,K1,K1,K1,K1,K1,K1,K1]
@[go_sem] def mk_72 : List Bool := [K0,K0,K0,K0,K0,K1,K1,K1,K1,K1,K1,K1,K1,K1,K1,K1,K1,K1,K1,K1,K1,K1,K1,K1,K1,K1,K1,K1,K1,K1,K1,K1,K1,K1,K1,K1,K1,K1,K1,K1,K1,K1,K1,K1,K1,K1,K1,K1,K1,K1,K1,K1,K1,K1,K1,K1,K1,K1,K1,K1,K1,K1,K1,K1,K1,K1,K1,K1,K1]
def lexer_scanner_text_l1b : AC := (.seq (.seq (.dreg [
 iC 16 0,
 iO 17 (.nck (.t 16) none),
 iF 18 17 1,
 iL 19 18,
 iC 20 0,
 iO 21 (.nck (.t 20) none),
 iF 22 21 0,
 iL 23 22,
 iO 24 (.len true (.t 23) none),
 iB 25 .lss 19 24,
 iC 26 25,
 iG 27 (.cp (.t 0)) 26 true,
 iG 28 (.nck (.t 27) none) 26 true,
 iG 29 (.fa (.t 28) 0 none) 26 true,
 iG 30 (.ld (.t 29) none false none) 26 true,
 iG 31 (.cp (.t 0)) 26 true,
 iG 32 (.nck (.t 31) none) 26 true,
 iG 33 (.fa (.t 32) 1 none) 26 true,
 iG 34 (.ld (.t 33) none false none) 26 true,
 iG 35 (.idx (.t 30) (.t 34) none 1 false) 26 true,
 iG 36 (.bin .neq (.t 35) (.c (.int .u8 34))) 26 true,
 iO 37 (.pick (.t 26) (.t 36) (.c (.bool false)))])
 (.cond (.t 37) .skip
 (.exit 0)))
 (.blk 1 (.seq (.seq (.dreg [
 iC 38 0,
 iO 39 (.nck (.t 38) none),
 iF 40 39 0,
 iL 41 40,
 iC 42 0,
 iO 43 (.nck (.t 42) none),
 iF 44 43 1,
 iL 45 44,
 iO 46 (.idx (.t 41) (.t 45) none 1 false),
 iO 47 (.bin .lss (.t 46) (.c (.int .u8 32))),
 iC 48 47,
 iG 49 (.cp (.t 0)) 48 false,
 iG 50 (.nck (.t 49) none) 48 false,
 iG 51 (.fa (.t 50) 0 none) 48 false,
 iG 52 (.ld (.t 51) none false none) 48 false,
 iG 53 (.cp (.t 0)) 48 false,
 iG 54 (.nck (.t 53) none) 48 false,
 iG 55 (.fa (.t 54) 1 none) 48 false,
 iG 56 (.ld (.t 55) none false none) 48 false,
 iG 57 (.idx (.t 52) (.t 56) none 1 false) 48 false,
 iG 58 (.bin .gtr (.t 57) (.c (.int .u8 126))) 48 false,
 iO 59 (.pick (.t 48) (.c (.bool true)) (.t 58))])
 (.cond (.t 59) (.reg [
 iM 60 3,
 iO 61 (.call n_lexer_fail [((.t 60), false), ((.c (.int .i64 1)), false)] false)])
 .skip))
 (.reg [
 iM 62 0,
 iO 63 (.nck (.t 62) none),
 iF 64 63 1,
 iL 65 64,
 iI 66 .add 65 1,
 iO 67 (.nck (.t 62) none),
 iF 68 67 1,
 iN (.st (.t 68) (.t 66) 1 false none)]))))
@[go_sem] def mk_73 : List Bool := [K0,K0,K0,K0,K0,K0,K0,K0,K0,K0,K0,K0,K0,K0,K0,K0,K1,K1,K1,K1,K1,K1,K1,K1,K1,K1,K1,K1,K1,K1,K1,K1,K1,K1,K1,K1,K1,K1,K1,K1,K1,K1,K1,K1,K1,K1,K1,K1,K1,K1,K1,K1,K1,K1,K1,K1,K1,K1,K1,K1,K1,K1,K1,K1,K1,K1,K1,K1,K1]
def lexer_scanner_text_l1 : AC := .pre mk_73 lexer_scanner_text_l1b
@[go_sem] theorem lexer_scanner_text_l1_go : LoopRule lexer_scanner_text_l1 lexer_scanner_text_l1b mk_73 := loopRule
@[go_sem] theorem lexer_scanner_text_l1_lp : LpRule lexer_scanner_text_l1 lexer_scanner_text_l1b mk_73 := lpRule
def lexer_scanner_text_k1b : AC := (.seq (.seq (.dreg [
 iC 69 0,
 iO 70 (.nck (.t 69) none),
 iF 71 70 1,
 iL 72 71,
 iC 73 0,
 iO 74 (.nck (.t 73) none),
 iF 75 74 0,
 iL 76 75,
 iO 77 (.len true (.t 76) none),
 iB 78 .eql 72 77])
 (.cond (.t 78) (.reg [
 iM 79 3,
 iO 80 (.call n_lexer_fail [((.t 79), false), ((.c (.int .i64 1)), false)] false)])
 .skip))
 (.seq (.dreg [
 iC 81 0,
 iO 82 (.nck (.t 81) none),
 iF 83 82 0,
 iL 84 83,
 iC 85 3,
 iI 86 .add 85 1,
 iC 87 0,
 iO 88 (.nck (.t 87) none),
 iF 89 88 1,
 iL 90 89,
 iO 91 (.slc none (.t 84) (some (.t 86)) (some (.t 90)) none),
 iC 4 91])
 (.seq (.reg [
 iM 92 0,
 iO 93 (.nck (.t 92) none),
 iF 94 93 1,
 iL 95 94,
 iI 96 .add 95 1,
 iO 97 (.nck (.t 92) none),
 iF 98 97 1,
 iN (.st (.t 98) (.t 96) 1 false none)])
 (.seq (.seq (.reg [
 iM 99 4,
 iO 100 (.len true (.t 99) none),
 iI 101 .gtr 100 200])
 (.cond (.t 101) (.reg [
 iM 102 3,
 iO 103 (.call n_lexer_fail [((.t 102), false), ((.c (.int .i64 5)), false)] false)])
 .skip))
 (.seq (.reg [
 iM 104 3,
 iM 105 4,
 iO 106 (.build [(.int .i64 0), (.int .i64 0), (.int .i64 0), (.str [])] [(0, 1, (.c (.int .i64 3))), (2, 1, (.t 104)), (3, 1, (.t 105))]),
 iN (.st (.t 2) (.t 106) 4 false (some 2))])
 .ret)))))
def lexer_scanner_text_k1 : AC := .pre mk_72 lexer_scanner_text_k1b
def a_lexer_scanner_text : AF := ⟨107, (.seq (.reg [
 iO 2 (.newbox [(.int .i64 0), (.int .i64 0), (.int .i64 0), (.str [])])])
 (.seq (.reg [
 iM 5 0,
 iO 6 (.nck (.t 5) none),
 iF 7 6 1,
 iL 8 7,
 iM 3 8])
 (.seq (.reg [
 iM 9 0,
 iO 10 (.nck (.t 9) none),
 iF 11 10 1,
 iL 12 11,
 iI 13 .add 12 1,
 iO 14 (.nck (.t 9) none),
 iF 15 14 1,
 iN (.st (.t 15) (.t 13) 1 false none)])
 (.seq (.blk 0 (.pre mk_71 (.loop lexer_scanner_text_l1)))
 lexer_scanner_text_k1)))), [.cell 2 (some 4)]⟩
def a_lexer_scanner_symbol : AF := ⟨97, (.seq (.reg [
 iO 2 (.newbox [(.int .i64 0), (.int .i64 0), (.int .i64 0), (.str [])])])
 (.seq (.reg [
 iM 5 0,
 iO 6 (.nck (.t 5) none),
 iF 7 6 1,
 iL 8 7,
 iM 3 8])
 (.seq (.reg [
 iK 4 (.int .i64 1)])
 (.seq (.seq (.reg [
 iM 9 0,
 iO 10 (.nck (.t 9) none),
 iF 11 10 0,
 iL 12 11,
 iM 13 3,
 iO 14 (.idx (.t 12) (.t 13) none 1 false)])
 (.blk 0 (.seq (.seq (.reg [
 iO 18 (.bin .eql (.t 14) (.c (.int .u8 59))),
 iM 17 18])
 (.cond (.t 17) .skip
 (.seq (.reg [
 iO 19 (.bin .eql (.t 14) (.c (.int .u8 44))),
 iM 17 19])
 (.cond (.t 17) .skip
 (.seq (.reg [
 iO 20 (.bin .eql (.t 14) (.c (.int .u8 43))),
 iM 17 20])
 (.cond (.t 17) .skip
 (.seq (.reg [
 iO 21 (.bin .eql (.t 14) (.c (.int .u8 45))),
 iM 17 21])
 (.cond (.t 17) .skip
 (.seq (.reg [
 iO 22 (.bin .eql (.t 14) (.c (.int .u8 58))),
 iM 17 22])
 (.cond (.t 17) .skip
 (.seq (.reg [
 iO 23 (.bin .eql (.t 14) (.c (.int .u8 40))),
 iM 17 23])
 (.cond (.t 17) .skip
 (.seq (.reg [
 iO 24 (.bin .eql (.t 14) (.c (.int .u8 41))),
 iM 17 24])
 (.cond (.t 17) .skip
 (.seq (.reg [
 iO 25 (.bin .eql (.t 14) (.c (.int .u8 61))),
 iM 17 25])
 (.cond (.t 17) .skip
 (.seq (.reg [
 iO 26 (.bin .eql (.t 14) (.c (.int .u8 42))),
 iM 17 26])
 (.cond (.t 17) .skip
 (.seq (.reg [
 iO 27 (.bin .eql (.t 14) (.c (.int .u8 47))),
 iM 17 27])
 (.cond (.t 17) .skip
 (.reg [
 iO 28 (.bin .eql (.t 14) (.c (.int .u8 37))),
 iM 17 28])))))))))))))))))))))
 (.cond (.t 17) .skip
 (.seq (.reg [
 iO 30 (.bin .eql (.t 14) (.c (.int .u8 60))),
 iM 29 30])
 (.cond (.t 29) (.seq (.reg [
 iM 31 3,
 iI 32 .add 31 1,
 iM 33 0,
 iO 34 (.nck (.t 33) none),
 iF 35 34 0,
 iL 36 35,
 iO 37 (.len true (.t 36) none),
 iB 38 .lss 32 37,
 iM 39 38,
 iG 40 (.mv (.t 0)) 39 true,
 iG 41 (.nck (.t 40) none) 39 true,
 iG 42 (.fa (.t 41) 0 none) 39 true,
 iG 43 (.ld (.t 42) none false none) 39 true,
 iG 44 (.mv (.t 3)) 39 true,
 iG 45 (.bin .add (.t 44) (.c (.int .i64 1))) 39 true,
 iG 46 (.idx (.t 43) (.t 45) none 1 false) 39 true,
 iG 47 (.bin .eql (.t 46) (.c (.int .u8 62))) 39 true,
 iG 48 (.mv (.t 47)) 39 true,
 iG 49 (.mv (.t 0)) 48 false,
 iG 50 (.nck (.t 49) none) 48 false,
 iG 51 (.fa (.t 50) 0 none) 48 false,
 iG 52 (.ld (.t 51) none false none) 48 false,
 iG 53 (.mv (.t 3)) 48 false,
 iG 54 (.bin .add (.t 53) (.c (.int .i64 1))) 48 false,
 iG 55 (.idx (.t 52) (.t 54) none 1 false) 48 false,
 iG 56 (.bin .eql (.t 55) (.c (.int .u8 61))) 48 false,
 iG 57 (.pick (.t 48) (.c (.bool true)) (.t 56)) 39 true,
 iO 58 (.pick (.t 39) (.t 57) (.c (.bool false)))])
 (.cond (.t 58) (.reg [
 iK 4 (.int .i64 2)])
 .skip))
 (.seq (.reg [
 iO 60 (.bin .eql (.t 14) (.c (.int .u8 62))),
 iM 59 60])
 (.cond (.t 59) (.seq (.reg [
 iM 61 3,
 iI 62 .add 61 1,
 iM 63 0,
 iO 64 (.nck (.t 63) none),
 iF 65 64 0,
 iL 66 65,
 iO 67 (.len true (.t 66) none),
 iB 68 .lss 62 67,
 iM 69 68,
 iG 70 (.mv (.t 0)) 69 true,
 iG 71 (.nck (.t 70) none) 69 true,
 iG 72 (.fa (.t 71) 0 none) 69 true,
 iG 73 (.ld (.t 72) none false none) 69 true,
 iG 74 (.mv (.t 3)) 69 true,
 iG 75 (.bin .add (.t 74) (.c (.int .i64 1))) 69 true,
 iG 76 (.idx (.t 73) (.t 75) none 1 false) 69 true,
 iG 77 (.bin .eql (.t 76) (.c (.int .u8 61))) 69 true,
 iO 78 (.pick (.t 69) (.t 77) (.c (.bool false)))])
 (.cond (.t 78) (.reg [
 iK 4 (.int .i64 2)])
 .skip))
 (.reg [
 iM 15 3,
 iO 16 (.call n_lexer_fail [((.t 15), false), ((.c (.int .i64 1)), false)] false)])))))))))
 (.seq (.reg [
 iM 79 0,
 iM 80 3,
 iM 81 4,
 iB 82 .add 80 81,
 iO 83 (.nck (.t 79) none),
 iF 84 83 1,
 iN (.st (.t 84) (.t 82) 1 false none)])
 (.seq (.dreg [
 iC 85 3,
 iC 86 0,
 iO 87 (.nck (.t 86) none),
 iF 88 87 0,
 iL 89 88,
 iC 90 3,
 iC 91 0,
 iO 92 (.nck (.t 91) none),
 iF 93 92 1,
 iL 94 93,
 iO 95 (.slc none (.t 89) (some (.t 90)) (some (.t 94)) none),
 iO 96 (.build [(.int .i64 0), (.int .i64 0), (.int .i64 0), (.str [])] [(0, 1, (.c (.int .i64 4))), (2, 1, (.t 85)), (3, 1, (.t 95))]),
 iN (.st (.t 2) (.t 96) 4 false (some 2))])
 .ret)))))), [.cell 2 (some 4)]⟩
def a_lexer_Keyword : AF := ⟨48, (.seq (.reg [
 iK 2 (.bool false)])
 (.seq (.seq (.reg [
 iM 3 0])
 (.blk 0 (.seq (.seq (.reg [
 iO 5 (.bin .eql (.t 3) (.c (.str [116, 97, 114, 105, 102, 102]))),
 iM 4 5])
 (.cond (.t 4) .skip
 (.seq (.reg [
 iO 6 (.bin .eql (.t 3) (.c (.str [102, 114, 111, 109]))),
 iM 4 6])
 (.cond (.t 4) .skip
 (.seq (.reg [
 iO 7 (.bin .eql (.t 3) (.c (.str [115, 112, 108, 105, 116]))),
 iM 4 7])
 (.cond (.t 4) .skip
 (.seq (.reg [
 iO 8 (.bin .eql (.t 3) (.c (.str [122, 111, 110, 101]))),
 iM 4 8])
 (.cond (.t 4) .skip
 (.seq (.reg [
 iO 9 (.bin .eql (.t 3) (.c (.str [98, 97, 110, 100]))),
 iM 4 9])
 (.cond (.t 4) .skip
 (.seq (.reg [
 iO 10 (.bin .eql (.t 3) (.c (.str [111, 116, 104, 101, 114, 119, 105, 115, 101]))),
 iM 4 10])
 (.cond (.t 4) .skip
 (.seq (.reg [
 iO 11 (.bin .eql (.t 3) (.c (.str [114, 97, 116, 101]))),
 iM 4 11])
 (.cond (.t 4) .skip
 (.seq (.reg [
 iO 12 (.bin .eql (.t 3) (.c (.str [116, 111]))),
 iM 4 12])
 (.cond (.t 4) .skip
 (.seq (.reg [
 iO 13 (.bin .eql (.t 3) (.c (.str [97, 110, 121]))),
 iM 4 13])
 (.cond (.t 4) .skip
 (.seq (.reg [
 iO 14 (.bin .eql (.t 3) (.c (.str [105, 110]))),
 iM 4 14])
 (.cond (.t 4) .skip
 (.seq (.reg [
 iO 15 (.bin .eql (.t 3) (.c (.str [115, 101, 116, 117, 112]))),
 iM 4 15])
 (.cond (.t 4) .skip
 (.seq (.reg [
 iO 16 (.bin .eql (.t 3) (.c (.str [117, 112, 116, 111]))),
 iM 4 16])
 (.cond (.t 4) .skip
 (.seq (.reg [
 iO 17 (.bin .eql (.t 3) (.c (.str [112, 101, 114]))),
 iM 4 17])
 (.cond (.t 4) .skip
 (.reg [
 iO 18 (.bin .eql (.t 3) (.c (.str [97, 116]))),
 iM 4 18])))))))))))))))))))))))))))
 (.cond (.t 4) (.seq (.reg [
 iK 2 (.bool true)])
 .ret)
 (.seq (.seq (.reg [
 iO 20 (.bin .eql (.t 3) (.c (.str [100, 105, 115, 99, 111, 117, 110, 116]))),
 iM 19 20])
 (.cond (.t 19) .skip
 (.seq (.reg [
 iO 21 (.bin .eql (.t 3) (.c (.str [112, 111, 105, 110, 116, 115]))),
 iM 19 21])
 (.cond (.t 19) .skip
 (.seq (.reg [
 iO 22 (.bin .eql (.t 3) (.c (.str [119, 104, 101, 110]))),
 iM 19 22])
 (.cond (.t 19) .skip
 (.seq (.reg [
 iO 23 (.bin .eql (.t 3) (.c (.str [97, 110, 100]))),
 iM 19 23])
 (.cond (.t 19) .skip
 (.seq (.reg [
 iO 24 (.bin .eql (.t 3) (.c (.str [111, 114]))),
 iM 19 24])
 (.cond (.t 19) .skip
 (.reg [
 iO 25 (.bin .eql (.t 3) (.c (.str [110, 111, 116]))),
 iM 19 25])))))))))))
 (.cond (.t 19) (.seq (.reg [
 iK 2 (.bool true)])
 .ret)
 (.seq (.seq (.reg [
 iO 27 (.bin .eql (.t 3) (.c (.str [109, 111, 110]))),
 iM 26 27])
 (.cond (.t 26) .skip
 (.seq (.reg [
 iO 28 (.bin .eql (.t 3) (.c (.str [116, 117, 101]))),
 iM 26 28])
 (.cond (.t 26) .skip
 (.seq (.reg [
 iO 29 (.bin .eql (.t 3) (.c (.str [119, 101, 100]))),
 iM 26 29])
 (.cond (.t 26) .skip
 (.seq (.reg [
 iO 30 (.bin .eql (.t 3) (.c (.str [116, 104, 117]))),
 iM 26 30])
 (.cond (.t 26) .skip
 (.seq (.reg [
 iO 31 (.bin .eql (.t 3) (.c (.str [102, 114, 105]))),
 iM 26 31])
 (.cond (.t 26) .skip
 (.seq (.reg [
 iO 32 (.bin .eql (.t 3) (.c (.str [115, 97, 116]))),
 iM 26 32])
 (.cond (.t 26) .skip
 (.seq (.reg [
 iO 33 (.bin .eql (.t 3) (.c (.str [115, 117, 110]))),
 iM 26 33])
 (.cond (.t 26) .skip
 (.reg [
 iO 34 (.bin .eql (.t 3) (.c (.str [104, 111, 108, 105, 100, 97, 121]))),
 iM 26 34])))))))))))))))
 (.cond (.t 26) (.seq (.reg [
 iK 2 (.bool true)])
 .ret)
 (.seq (.seq (.reg [
 iO 36 (.bin .eql (.t 3) (.c (.str [118, 111, 105, 99, 101]))),
 iM 35 36])
 (.cond (.t 35) .skip
 (.seq (.reg [
 iO 37 (.bin .eql (.t 3) (.c (.str [116, 101, 120, 116]))),
 iM 35 37])
 (.cond (.t 35) .skip
 (.seq (.reg [
 iO 38 (.bin .eql (.t 3) (.c (.str [100, 97, 116, 97]))),
 iM 35 38])
 (.cond (.t 35) .skip
 (.reg [
 iO 39 (.bin .eql (.t 3) (.c (.str [99, 111, 110, 116, 101, 110, 116]))),
 iM 35 39])))))))
 (.cond (.t 35) (.seq (.reg [
 iK 2 (.bool true)])
 .ret)
 (.seq (.seq (.reg [
 iO 41 (.bin .eql (.t 3) (.c (.str [107, 105, 110, 100]))),
 iM 40 41])
 (.cond (.t 40) .skip
 (.seq (.reg [
 iO 42 (.bin .eql (.t 3) (.c (.str [117, 110, 105, 116, 115]))),
 iM 40 42])
 (.cond (.t 40) .skip
 (.seq (.reg [
 iO 43 (.bin .eql (.t 3) (.c (.str [119, 101, 101, 107, 100, 97, 121]))),
 iM 40 43])
 (.cond (.t 40) .skip
 (.seq (.reg [
 iO 44 (.bin .eql (.t 3) (.c (.str [109, 105, 110, 117, 116, 101]))),
 iM 40 44])
 (.cond (.t 40) .skip
 (.seq (.reg [
 iO 45 (.bin .eql (.t 3) (.c (.str [116, 111, 116, 97, 108]))),
 iM 40 45])
 (.cond (.t 40) .skip
 (.seq (.reg [
 iO 46 (.bin .eql (.t 3) (.c (.str [115, 112, 101, 110, 116]))),
 iM 40 46])
 (.cond (.t 40) .skip
 (.reg [
 iO 47 (.bin .eql (.t 3) (.c (.str [102, 97, 109, 105, 108, 121]))),
 iM 40 47])))))))))))))
 (.cond (.t 40) (.seq (.reg [
 iK 2 (.bool true)])
 .ret)
 .skip))))))))))))
 (.seq (.reg [
 iK 2 (.bool false)])
 .ret))), [.tmp 2]⟩
def a_parser_reader_skip : AF := ⟨14, (.seq (.reg [
 iO 2 (.newbox [(.int .i64 0), (.int .i64 0), (.int .i64 0), (.str [])])])
 (.seq (.reg [
 iM 4 0,
 iO 5 (.call n_parser_reader_peek [((.t 4), false)] true),
 iO 3 (.newbox [(.int .i64 0), (.int .i64 0), (.int .i64 0), (.str [])]),
 iN (.st (.t 3) (.t 5) 4 false (some 3))])
 (.seq (.reg [
 iM 6 0,
 iO 7 (.nck (.t 6) none),
 iF 8 7 1,
 iL 9 8,
 iI 10 .add 9 1,
 iO 11 (.nck (.t 6) none),
 iF 12 11 1,
 iN (.st (.t 12) (.t 10) 1 false none)])
 (.seq (.reg [
 iO 13 (.ld (.t 3) (some 4) false (some 3)),
 iN (.st (.t 2) (.t 13) 4 false (some 2))])
 .ret)))), [.cell 2 (some 4)]⟩
@[go_sem] def mk_74 : List Bool := [K1,K0,K1,K1,K0,K0,K1,K1,K1,K1,K1,K1,K1,K1,K1,K1,K1,K1,K1,K1,K1,K1,K1,K1,K1,K1]
@[go_sem] def mk_75 : List Bool := [K1,K1,K1,K1,K0,K1,K1,K1,K1,K1,K1,K1,K1,K1,K1,K1,K1,K1,K1,K1,K1,K1,K1,K1,K1,K1,K1,K1,K1,K1,K1,K1,K1,K1,K1,K1,K1,K1]
def calendar_Day_l1b : AC := (.seq (.seq (.reg [
 iM 26 5,
 iF 27 1 1,
 iL 28 27,
 iB 29 .lss 26 28])
 (.cond (.t 29) .skip
 (.exit 0)))
 (.seq (.blk 1 (.reg [
 iM 32 4,
 iF 33 1 0,
 iL 34 33,
 iM 35 5,
 iO 36 (.call n_calendar_days [((.t 34), false), ((.t 35), false)] false),
 iB 37 .add 32 36,
 iM 4 37]))
 (.reg [
 iM 30 5,
 iI 31 .add 30 1,
 iM 5 31])))
@[go_sem] def mk_76 : List Bool := [K0,K0,K0,K0,K0,K0,K0,K0,K0,K0,K0,K0,K0,K0,K0,K0,K0,K0,K0,K0,K0,K0,K0,K0,K0,K0,K1,K1,K1,K1,K1,K1,K1,K1,K1,K1,K1,K1]
def calendar_Day_l1 : AC := .pre mk_76 calendar_Day_l1b
@[go_sem] theorem calendar_Day_l1_go : LoopRule calendar_Day_l1 calendar_Day_l1b mk_76 := loopRule
@[go_sem] theorem calendar_Day_l1_lp : LpRule calendar_Day_l1 calendar_Day_l1b mk_76 := lpRule
def calendar_Day_k1b : AC := (.seq (.reg [
 iM 38 4,
 iM 2 38,
 iK 3 (.int .i64 0)])
 .ret)
def calendar_Day_k1 : AC := .pre mk_75 calendar_Day_k1b
def a_calendar_Day : AF := ⟨39, (.seq (.reg [
 iO 1 (.boxr (.t 0)),
 iK 2 (.int .i64 0),
 iK 3 (.int .i64 0)])
 (.seq (.seq (.dreg [
 iF 6 1 2,
 iL 7 6,
 iI 8 .lss 7 1,
 iC 9 8,
 iG 10 (.fa (.t 1) 2 none) 9 false,
 iG 11 (.ld (.t 10) none false none) 9 false,
 iG 12 (.fa (.t 1) 0 none) 9 false,
 iG 13 (.ld (.t 12) none false none) 9 false,
 iG 14 (.fa (.t 1) 1 none) 9 false,
 iG 15 (.ld (.t 14) none false none) 9 false,
 iG 16 (.call n_calendar_Length [((.t 13), false), ((.t 15), false)] false) 9 false,
 iG 17 (.bin .gtr (.t 11) (.t 16)) 9 false,
 iO 18 (.pick (.t 9) (.c (.bool true)) (.t 17))])
 (.cond (.t 18) (.seq (.reg [
 iK 2 (.int .i64 0),
 iK 3 (.int .i64 6)])
 .ret)
 .skip))
 (.seq (.dreg [
 iF 19 1 0,
 iL 20 19,
 iO 21 (.call n_calendar_before [((.t 20), false)] false),
 iF 22 1 2,
 iL 23 22,
 iB 24 .add 21 23,
 iI 25 .sub 24 1,
 iC 4 25])
 (.seq (.seq (.reg [
 iK 5 (.int .i64 1)])
 (.blk 0 (.pre mk_74 (.loop calendar_Day_l1))))
 calendar_Day_k1)))), [.tmp 2, .tmp 3]⟩
def a_parser_reader_takeSymbol : AF := ⟨15, (.seq (.reg [
 iK 4 (.bool false)])
 (.seq (.seq (.reg [
 iM 5 0,
 iM 6 1,
 iO 7 (.call n_parser_reader_symbol [((.t 5), false), ((.t 6), false)] true)])
 (.cond (.t 7) (.seq (.reg [
 iM 8 0,
 iO 9 (.nck (.t 8) none),
 iF 10 9 1,
 iL 11 10,
 iI 12 .add 11 1,
 iO 13 (.nck (.t 8) none),
 iF 14 13 1,
 iN (.st (.t 14) (.t 12) 1 false none)])
 (.seq (.reg [
 iK 4 (.bool true)])
 .ret))
 .skip))
 (.seq (.reg [
 iK 4 (.bool false)])
 .ret))), [.tmp 4]⟩
def a_parser_reader_word : AF := ⟨16, (.seq (.reg [
 iK 4 (.bool false)])
 (.seq (.reg [
 iM 5 0,
 iO 6 (.call n_parser_reader_peek [((.t 5), false)] true),
 iO 7 (.fld (.t 6) 0 1 false),
 iI 8 .eql 7 1,
 iM 9 8,
 iG 10 (.mv (.t 0)) 9 true,
 iG 11 (.call n_parser_reader_peek [((.t 10), false)] true) 9 true,
 iG 12 (.fld (.t 11) 3 1 false) 9 true,
 iG 13 (.mv (.t 1)) 9 true,
 iG 14 (.bin .eql (.t 12) (.t 13)) 9 true,
 iO 15 (.pick (.t 9) (.t 14) (.c (.bool false))),
 iM 4 15])
 .ret)), [.tmp 4]⟩
def a_parser_reader_digits : AF := ⟨13, (.seq (.reg [
 iK 2 (.str [])])
 (.seq (.seq (.reg [
 iM 3 0,
 iO 4 (.call n_parser_reader_peek [((.t 3), false)] true),
 iO 5 (.fld (.t 4) 0 1 false),
 iI 6 .neq 5 2])
 (.cond (.t 6) (.reg [
 iM 7 0,
 iO 8 (.call n_parser_reader_peek [((.t 7), false)] true),
 iO 9 (.call n_parser_fail [((.t 8), false), ((.c (.int .i64 1)), false)] false)])
 .skip))
 (.seq (.reg [
 iM 10 0,
 iO 11 (.call n_parser_reader_skip [((.t 10), false)] true),
 iO 12 (.fld (.t 11) 3 1 false),
 iM 2 12])
 .ret))), [.tmp 2]⟩
@[go_sem] def mk_77 : List Bool := [K0,K0,K0,K0,K0,K1,K1,K1,K1,K1]
@[go_sem] def mk_78 : List Bool := [K0,K0,K0,K1,K0,K1,K1,K1,K1,K1,K1,K1,K1,K1,K1,K1,K1,K1,K1,K1,K1]
def parser_reader_slot_l1b : AC := (.seq (.seq (.reg [
 iM 10 0,
 iO 11 (.call n_parser_reader_takeSymbol [((.t 10), false), ((.c (.str [43])), false)] true)])
 (.cond (.t 11) .skip
 (.exit 0)))
 (.blk 1 (.seq (.reg [
 iM 12 0,
 iM 13 3,
 iO 14 (.call n_parser_reader_day [((.t 12), false), ((.t 13), false)] true),
 iM 3 14])
 (.dreg [
 iO 15 (.fa (.t 4) 0 (some 4)),
 iO 16 (.ld (.t 15) none false (some 4)),
 iC 17 3,
 iO 18 (.bin .shl (.c (.int .i64 1)) (.t 17)),
 iB 19 .or 16 18,
 iO 20 (.fa (.t 4) 0 (some 4)),
 iN (.st (.t 20) (.t 19) 1 false (some 4))]))))
@[go_sem] def mk_79 : List Bool := [K0,K0,K0,K0,K0,K0,K0,K0,K0,K0,K1,K1,K1,K1,K1,K1,K1,K1,K1,K1,K1]
def parser_reader_slot_l1 : AC := .pre mk_79 parser_reader_slot_l1b
@[go_sem] theorem parser_reader_slot_l1_go : LoopRule parser_reader_slot_l1 parser_reader_slot_l1b mk_79 := loopRule
@[go_sem] theorem parser_reader_slot_l1_lp : LpRule parser_reader_slot_l1 parser_reader_slot_l1b mk_79 := lpRule
def parser_reader_slot_k1b : AC := (.seq (.reg [
 iM 21 0,
 iO 22 (.call n_parser_reader_time [((.t 21), false), ((.c (.int .i64 23)), false)] true),
 iO 23 (.fa (.t 4) 1 (some 4)),
 iN (.st (.t 23) (.t 22) 1 false (some 4))])
 (.seq (.reg [
 iM 24 0,
 iO 25 (.call n_parser_reader_needSymbol [((.t 24), false), ((.c (.str [45])), false)] true)])
 (.seq (.reg [
 iM 26 0,
 iO 27 (.call n_parser_reader_time [((.t 26), false), ((.c (.int .i64 24)), false)] true),
 iO 28 (.fa (.t 4) 2 (some 4)),
 iN (.st (.t 28) (.t 27) 1 false (some 4))])
 (.seq (.reg [
 iO 29 (.ld (.t 4) (some 3) false (some 4)),
 iN (.st (.t 2) (.t 29) 3 false (some 2))])
 .ret))))
def parser_reader_slot_k1 : AC := .pre mk_78 parser_reader_slot_k1b
def a_parser_reader_slot : AF := ⟨30, (.seq (.reg [
 iO 2 (.newbox [(.int .i64 0), (.int .i64 0), (.int .i64 0)])])
 (.seq (.reg [
 iM 5 0,
 iO 6 (.call n_parser_reader_day [((.t 5), false), ((.c (.int .i64 (-1))), false)] true),
 iM 3 6])
 (.seq (.reg [
 iM 7 3,
 iO 8 (.bin .shl (.c (.int .i64 1)) (.t 7)),
 iO 9 (.build [(.int .i64 0), (.int .i64 0), (.int .i64 0)] [(0, 1, (.t 8))]),
 iO 4 (.newbox [(.int .i64 0), (.int .i64 0), (.int .i64 0)]),
 iN (.st (.t 4) (.t 9) 3 false (some 4))])
 (.seq (.blk 0 (.pre mk_77 (.loop parser_reader_slot_l1)))
 parser_reader_slot_k1)))), [.cell 2 (some 3)]⟩
def a_parser_kind : AF := ⟨12, (.seq (.reg [
 iK 2 (.int .i64 0)])
 (.seq (.seq (.reg [
 iM 3 0])
 (.blk 0 (.seq (.reg [
 iO 5 (.bin .eql (.t 3) (.c (.str [118, 111, 105, 99, 101]))),
 iM 4 5])
 (.cond (.t 4) (.seq (.reg [
 iK 2 (.int .i64 1)])
 .ret)
 (.seq (.reg [
 iO 7 (.bin .eql (.t 3) (.c (.str [116, 101, 120, 116]))),
 iM 6 7])
 (.cond (.t 6) (.seq (.reg [
 iK 2 (.int .i64 2)])
 .ret)
 (.seq (.reg [
 iO 9 (.bin .eql (.t 3) (.c (.str [100, 97, 116, 97]))),
 iM 8 9])
 (.cond (.t 8) (.seq (.reg [
 iK 2 (.int .i64 3)])
 .ret)
 (.seq (.reg [
 iO 11 (.bin .eql (.t 3) (.c (.str [99, 111, 110, 116, 101, 110, 116]))),
 iM 10 11])
 (.cond (.t 10) (.seq (.reg [
 iK 2 (.int .i64 4)])
 .ret)
 .skip))))))))))
 (.seq (.reg [
 iK 2 (.int .i64 0)])
 .ret))), [.tmp 2]⟩
def a_parser_reader_nameOrAny : AF := ⟨7, (.seq (.reg [
 iK 2 (.str [])])
 (.seq (.seq (.reg [
 iM 3 0,
 iO 4 (.call n_parser_reader_takeWord [((.t 3), false), ((.c (.str [97, 110, 121])), false)] true)])
 (.cond (.t 4) (.seq (.reg [
 iK 2 (.str [])])
 .ret)
 .skip))
 (.seq (.reg [
 iM 5 0,
 iO 6 (.call n_parser_reader_name [((.t 5), false)] true),
 iM 2 6])
 .ret))), [.tmp 2]⟩
def a_parser_reader_number : AF := ⟨26, (.seq (.reg [
 iK 2 (.int .i64 0)])
 (.seq (.reg [
 iM 4 0,
 iO 5 (.call n_parser_reader_peek [((.t 4), false)] true),
 iO 3 (.newbox [(.int .i64 0), (.int .i64 0), (.int .i64 0), (.str [])]),
 iN (.st (.t 3) (.t 5) 4 false (some 3))])
 (.seq (.seq (.reg [
 iO 6 (.fa (.t 3) 0 (some 3)),
 iO 7 (.ld (.t 6) none false (some 3)),
 iI 8 .neq 7 2,
 iM 9 8,
 iG 10 (.fa (.t 3) 3 (some 3)) 9 false,
 iG 11 (.ld (.t 10) none false (some 3)) 9 false,
 iG 12 (.len true (.t 11) none) 9 false,
 iG 13 (.bin .gtr (.t 12) (.c (.int .i64 1))) 9 false,
 iG 14 (.mv (.t 13)) 9 false,
 iG 15 (.fa (.t 3) 3 (some 3)) 14 true,
 iG 16 (.ld (.t 15) none false (some 3)) 14 true,
 iG 17 (.idx (.t 16) (.c (.int .i64 0)) none 1 false) 14 true,
 iG 18 (.bin .eql (.t 17) (.c (.int .u8 48))) 14 true,
 iG 19 (.pick (.t 14) (.t 18) (.c (.bool false))) 9 false,
 iO 20 (.pick (.t 9) (.c (.bool true)) (.t 19))])
 (.cond (.t 20) (.reg [
 iO 21 (.ld (.t 3) (some 4) false (some 3)),
 iO 22 (.call n_parser_fail [((.t 21), false), ((.c (.int .i64 1)), false)] false)])
 .skip))
 (.seq (.reg [
 iM 23 0,
 iO 24 (.call n_parser_reader_skip [((.t 23), false)] true),
 iO 25 (.fld (.t 24) 1 1 false),
 iM 2 25])
 .ret)))), [.tmp 2]⟩
def a_parser_reader_step : AF := ⟨20, (.seq (.reg [
 iO 2 (.newbox [(.int .i64 0), (.int .i64 0), (.int .i64 0)])])
 (.seq (.reg [
 iO 3 (.newbox [(.int .i64 0), (.int .i64 0), (.int .i64 0)])])
 (.seq (.seq (.reg [
 iM 4 0,
 iO 5 (.call n_parser_reader_takeWord [((.t 4), false), ((.c (.str [117, 112, 116, 111])), false)] true)])
 (.cond (.t 5) (.reg [
 iM 6 0,
 iO 7 (.call n_parser_reader_number [((.t 6), false)] true),
 iO 8 (.fa (.t 3) 0 (some 3)),
 iN (.st (.t 8) (.t 7) 1 false (some 3))])
 .skip))
 (.seq (.reg [
 iM 9 0,
 iO 10 (.call n_parser_reader_needWord [((.t 9), false), ((.c (.str [112, 101, 114])), false)] true)])
 (.seq (.reg [
 iM 11 0,
 iO 12 (.call n_parser_reader_number [((.t 11), false)] true),
 iO 13 (.fa (.t 3) 1 (some 3)),
 iN (.st (.t 13) (.t 12) 1 false (some 3))])
 (.seq (.reg [
 iM 14 0,
 iO 15 (.call n_parser_reader_needWord [((.t 14), false), ((.c (.str [97, 116])), false)] true)])
 (.seq (.reg [
 iM 16 0,
 iO 17 (.call n_parser_reader_number [((.t 16), false)] true),
 iO 18 (.fa (.t 3) 2 (some 3)),
 iN (.st (.t 18) (.t 17) 1 false (some 3))])
 (.seq (.reg [
 iO 19 (.ld (.t 3) (some 3) false (some 3)),
 iN (.st (.t 2) (.t 19) 3 false (some 2))])
 .ret)))))))), [.cell 2 (some 3)]⟩
def a_billingref23_Lower : AF := ⟨9, (.seq (.reg [
 iK 2 (.bool false)])
 (.seq (.reg [
 iM 3 0,
 iO 4 (.bin .geq (.t 3) (.c (.int .u8 97))),
 iM 5 4,
 iG 6 (.mv (.t 0)) 5 true,
 iG 7 (.bin .leq (.t 6) (.c (.int .u8 122))) 5 true,
 iO 8 (.pick (.t 5) (.t 7) (.c (.bool false))),
 iM 2 8])
 .ret)), [.tmp 2]⟩
@[go_sem] def mk_80 : List Bool := [K0,K0,K0,K0,K0,K1,K1,K0,K1]
@[go_sem] def mk_81 : List Bool := [K0,K0,K0,K0,K0,K1,K1,K0,K1,K1,K1,K1,K1,K1,K1,K1,K1,K1,K1,K1,K1]
def billingref23_word_l1b : AC := (.seq (.seq (.reg [
 iM 9 7,
 iM 10 0,
 iO 11 (.len true (.t 10) none),
 iB 12 .lss 9 11,
 iM 13 12,
 iG 14 (.mv (.t 0)) 13 true,
 iG 15 (.mv (.t 7)) 13 true,
 iG 16 (.idx (.t 14) (.t 15) none 1 false) 13 true,
 iG 17 (.call n_billingref23_inWord [((.t 16), false)] false) 13 true,
 iO 18 (.pick (.t 13) (.t 17) (.c (.bool false)))])
 (.cond (.t 18) .skip
 (.exit 0)))
 (.blk 1 (.reg [
 iM 19 7,
 iI 20 .add 19 1,
 iM 7 20])))
@[go_sem] def mk_82 : List Bool := [K0,K0,K0,K0,K0,K0,K0,K0,K0,K1,K1,K1,K1,K1,K1,K1,K1,K1,K1,K1,K1]
def billingref23_word_l1 : AC := .pre mk_82 billingref23_word_l1b
@[go_sem] theorem billingref23_word_l1_go : LoopRule billingref23_word_l1 billingref23_word_l1b mk_82 := loopRule
@[go_sem] theorem billingref23_word_l1_lp : LpRule billingref23_word_l1 billingref23_word_l1b mk_82 := lpRule
def billingref23_word_k1b : AC := (.seq (.seq (.reg [
 iM 21 7,
 iM 22 1,
 iB 23 .sub 21 22,
 iI 24 .gtr 23 24])
 (.cond (.t 24) (.seq (.reg [
 iO 25 (.build [(.int .i64 0), (.int .i64 0), (.int .i64 0), (.str [])] []),
 iM 26 1,
 iN (.st (.t 4) (.t 25) 4 false (some 4)),
 iM 5 26,
 iK 6 (.int .i64 5)])
 .ret)
 .skip))
 (.seq (.reg [
 iM 27 1,
 iM 28 0,
 iM 29 1,
 iM 30 7,
 iO 31 (.slc none (.t 28) (some (.t 29)) (some (.t 30)) none),
 iO 32 (.build [(.int .i64 0), (.int .i64 0), (.int .i64 0), (.str [])] [(0, 1, (.c (.int .i64 1))), (2, 1, (.t 27)), (3, 1, (.t 31))]),
 iM 33 7,
 iN (.st (.t 4) (.t 32) 4 false (some 4)),
 iM 5 33,
 iK 6 (.int .i64 0)])
 .ret))
def billingref23_word_k1 : AC := .pre mk_81 billingref23_word_k1b
def a_billingref23_word : AF := ⟨34, (.seq (.reg [
 iO 4 (.newbox [(.int .i64 0), (.int .i64 0), (.int .i64 0), (.str [])]),
 iK 5 (.int .i64 0),
 iK 6 (.int .i64 0)])
 (.seq (.reg [
 iM 8 1,
 iM 7 8])
 (.seq (.blk 0 (.pre mk_80 (.loop billingref23_word_l1)))
 billingref23_word_k1))), [.cell 4 (some 4), .tmp 5, .tmp 6]⟩
def a_billingref23_Digit : AF := ⟨9, (.seq (.reg [
 iK 2 (.bool false)])
 (.seq (.reg [
 iM 3 0,
 iO 4 (.bin .geq (.t 3) (.c (.int .u8 48))),
 iM 5 4,
 iG 6 (.mv (.t 0)) 5 true,
 iG 7 (.bin .leq (.t 6) (.c (.int .u8 57))) 5 true,
 iO 8 (.pick (.t 5) (.t 7) (.c (.bool false))),
 iM 2 8])
 .ret)), [.tmp 2]⟩
def billingref23_number_l1b : AC := (.seq (.seq (.reg [
 iM 9 7,
 iM 10 0,
 iO 11 (.len true (.t 10) none),
 iB 12 .lss 9 11,
 iM 13 12,
 iG 14 (.mv (.t 0)) 13 true,
 iG 15 (.mv (.t 7)) 13 true,
 iG 16 (.idx (.t 14) (.t 15) none 1 false) 13 true,
 iG 17 (.call n_billingref23_Digit [((.t 16), false)] false) 13 true,
 iO 18 (.pick (.t 13) (.t 17) (.c (.bool false)))])
 (.cond (.t 18) .skip
 (.exit 0)))
 (.blk 1 (.reg [
 iM 19 7,
 iI 20 .add 19 1,
 iM 7 20])))
def billingref23_number_l1 : AC := .pre mk_82 billingref23_number_l1b
@[go_sem] theorem billingref23_number_l1_go : LoopRule billingref23_number_l1 billingref23_number_l1b mk_82 := loopRule
@[go_sem] theorem billingref23_number_l1_lp : LpRule billingref23_number_l1 billingref23_number_l1b mk_82 := lpRule
def billingref23_number_k1b : AC := (.seq (.seq (.reg [
 iM 21 7,
 iM 22 1,
 iB 23 .sub 21 22,
 iI 24 .gtr 23 16])
 (.cond (.t 24) (.seq (.reg [
 iO 25 (.build [(.int .i64 0), (.int .i64 0), (.int .i64 0), (.str [])] []),
 iM 26 1,
 iN (.st (.t 4) (.t 25) 4 false (some 4)),
 iM 5 26,
 iK 6 (.int .i64 5)])
 .ret)
 .skip))
 (.seq (.seq (.reg [
 iM 27 7,
 iM 28 0,
 iO 29 (.len true (.t 28) none),
 iB 30 .lss 27 29,
 iM 31 30,
 iG 32 (.mv (.t 0)) 31 true,
 iG 33 (.mv (.t 7)) 31 true,
 iG 34 (.idx (.t 32) (.t 33) none 1 false) 31 true,
 iG 35 (.call n_billingref23_Lower [((.t 34), false)] false) 31 true,
 iO 36 (.pick (.t 31) (.t 35) (.c (.bool false)))])
 (.cond (.t 36) (.seq (.reg [
 iO 37 (.build [(.int .i64 0), (.int .i64 0), (.int .i64 0), (.str [])] []),
 iM 38 1,
 iN (.st (.t 4) (.t 37) 4 false (some 4)),
 iM 5 38,
 iK 6 (.int .i64 1)])
 .ret)
 .skip))
 (.seq (.dreg [
 iC 39 0,
 iC 40 1,
 iC 41 7,
 iO 42 (.slc none (.t 39) (some (.t 40)) (some (.t 41)) none),
 iO 43 (.call n_billingref23_Value [((.t 42), false)] false),
 iC 44 1,
 iC 45 0,
 iC 46 1,
 iC 47 7,
 iO 48 (.slc none (.t 45) (some (.t 46)) (some (.t 47)) none),
 iO 49 (.build [(.int .i64 0), (.int .i64 0), (.int .i64 0), (.str [])] [(0, 1, (.c (.int .i64 2))), (1, 1, (.t 43)), (2, 1, (.t 44)), (3, 1, (.t 48))]),
 iC 50 7,
 iN (.st (.t 4) (.t 49) 4 false (some 4)),
 iC 5 50,
 iK 6 (.int .i64 0)])
 .ret)))
def billingref23_number_k1 : AC := .pre mk_81 billingref23_number_k1b
def a_billingref23_number : AF := ⟨51, (.seq (.reg [
 iO 4 (.newbox [(.int .i64 0), (.int .i64 0), (.int .i64 0), (.str [])]),
 iK 5 (.int .i64 0),
 iK 6 (.int .i64 0)])
 (.seq (.reg [
 iM 8 1,
 iM 7 8])
 (.seq (.blk 0 (.pre mk_80 (.loop billingref23_number_l1)))
 billingref23_number_k1))), [.cell 4 (some 4), .tmp 5, .tmp 6]⟩
@[go_sem] def mk_83 : List Bool := [K0,K0,K0,K0,K0,K1,K1,K0,K1,K1]
@[go_sem] def mk_84 : List Bool := [K0,K0,K0,K0,K0,K1,K1,K0,K1,K1,K1,K1,K1,K1,K1,K1,K1,K1,K1,K1,K1,K1]
def billingref23_text_l1b : AC := (.seq (.seq (.reg [
 iM 10 7,
 iM 11 0,
 iO 12 (.len true (.t 11) none),
 iB 13 .lss 10 12,
 iM 14 13,
 iG 15 (.mv (.t 0)) 14 true,
 iG 16 (.mv (.t 7)) 14 true,
 iG 17 (.idx (.t 15) (.t 16) none 1 false) 14 true,
 iG 18 (.call n_billingref23_inText [((.t 17), false)] false) 14 true,
 iO 19 (.pick (.t 14) (.t 18) (.c (.bool false)))])
 (.cond (.t 19) .skip
 (.exit 0)))
 (.blk 1 (.reg [
 iM 20 7,
 iI 21 .add 20 1,
 iM 7 21])))
@[go_sem] def mk_85 : List Bool := [K0,K0,K0,K0,K0,K0,K0,K0,K0,K0,K1,K1,K1,K1,K1,K1,K1,K1,K1,K1,K1,K1]
def billingref23_text_l1 : AC := .pre mk_85 billingref23_text_l1b
@[go_sem] theorem billingref23_text_l1_go : LoopRule billingref23_text_l1 billingref23_text_l1b mk_85 := loopRule
@[go_sem] theorem billingref23_text_l1_lp : LpRule billingref23_text_l1 billingref23_text_l1b mk_85 := lpRule
def billingref23_text_k1b : AC := (.seq (.seq (.reg [
 iM 22 7,
 iM 23 0,
 iO 24 (.len true (.t 23) none),
 iB 25 .eql 22 24,
 iM 26 25,
 iG 27 (.mv (.t 0)) 26 false,
 iG 28 (.mv (.t 7)) 26 false,
 iG 29 (.idx (.t 27) (.t 28) none 1 false) 26 false,
 iG 30 (.bin .neq (.t 29) (.c (.int .u8 34))) 26 false,
 iO 31 (.pick (.t 26) (.c (.bool true)) (.t 30))])
 (.cond (.t 31) (.seq (.reg [
 iO 32 (.build [(.int .i64 0), (.int .i64 0), (.int .i64 0), (.str [])] []),
 iM 33 1,
 iN (.st (.t 4) (.t 32) 4 false (some 4)),
 iM 5 33,
 iK 6 (.int .i64 1)])
 .ret)
 .skip))
 (.seq (.seq (.reg [
 iM 34 7,
 iM 35 1,
 iB 36 .sub 34 35,
 iI 37 .sub 36 1,
 iI 38 .gtr 37 200])
 (.cond (.t 38) (.seq (.reg [
 iO 39 (.build [(.int .i64 0), (.int .i64 0), (.int .i64 0), (.str [])] []),
 iM 40 1,
 iN (.st (.t 4) (.t 39) 4 false (some 4)),
 iM 5 40,
 iK 6 (.int .i64 5)])
 .ret)
 .skip))
 (.seq (.reg [
 iM 41 1,
 iM 42 0,
 iM 43 1,
 iI 44 .add 43 1,
 iM 45 7,
 iO 46 (.slc none (.t 42) (some (.t 44)) (some (.t 45)) none),
 iO 47 (.build [(.int .i64 0), (.int .i64 0), (.int .i64 0), (.str [])] [(0, 1, (.c (.int .i64 3))), (2, 1, (.t 41)), (3, 1, (.t 46))]),
 iM 48 7,
 iI 49 .add 48 1,
 iN (.st (.t 4) (.t 47) 4 false (some 4)),
 iM 5 49,
 iK 6 (.int .i64 0)])
 .ret)))
def billingref23_text_k1 : AC := .pre mk_84 billingref23_text_k1b
def a_billingref23_text : AF := ⟨50, (.seq (.reg [
 iO 4 (.newbox [(.int .i64 0), (.int .i64 0), (.int .i64 0), (.str [])]),
 iK 5 (.int .i64 0),
 iK 6 (.int .i64 0)])
 (.seq (.reg [
 iM 8 1,
 iI 9 .add 8 1,
 iM 7 9])
 (.seq (.blk 0 (.pre mk_83 (.loop billingref23_text_l1)))
 billingref23_text_k1))), [.cell 4 (some 4), .tmp 5, .tmp 6]⟩
@[go_sem] def mk_86 : List Bool := [K0,K0,K0,K0,K0,K0,K0,K0,K0,K0,K1]
@[go_sem] def mk_87 : List Bool := [K1,K0,K0,K0,K0,K1,K1,K1,K1,K1,K1,K1,K1,K1,K1,K1,K1,K1,K1,K1,K1,K1,K1,K1,K1,K1,K1,K1,K1,K1,K1,K1,K1,K1,K1,K1,K1,K1,K1,K1,K1,K1,K1,K1,K1,K1,K1,K1,K1,K1]
def billingref23_symbol_l1b : AC := (.seq (.seq (.reg [
 iM 11 8,
 iO 12 (.al 7),
 iO 13 (.len false (.t 12) (some 7)),
 iB 14 .lss 11 13])
 (.cond (.t 14) .skip
 (.exit 0)))
 (.seq (.blk 1 (.seq (.reg [
 iO 17 (.al 7),
 iM 18 8,
 iO 19 (.ia (.t 17) (.t 18) 1 none (some 7)),
 iL 20 19,
 iO 21 (.len true (.t 20) none),
 iM 9 21])
 (.seq (.dreg [
 iC 22 1,
 iC 23 9,
 iB 24 .add 22 23,
 iC 25 0,
 iO 26 (.len true (.t 25) none),
 iB 27 .leq 24 26,
 iC 28 27,
 iG 29 (.cp (.t 0)) 28 true,
 iG 30 (.cp (.t 1)) 28 true,
 iG 31 (.cp (.t 1)) 28 true,
 iG 32 (.cp (.t 9)) 28 true,
 iG 33 (.bin .add (.t 31) (.t 32)) 28 true,
 iG 34 (.slc none (.t 29) (some (.t 30)) (some (.t 33)) none) 28 true,
 iG 35 (.al 7) 28 true,
 iG 36 (.cp (.t 8)) 28 true,
 iG 37 (.ia (.t 35) (.t 36) 1 none (some 7)) 28 true,
 iG 38 (.ld (.t 37) none false none) 28 true,
 iG 39 (.bin .eql (.t 34) (.t 38)) 28 true,
 iO 40 (.pick (.t 28) (.t 39) (.c (.bool false)))])
 (.cond (.t 40) (.seq (.reg [
 iM 41 1,
 iO 42 (.al 7),
 iM 43 8,
 iO 44 (.ia (.t 42) (.t 43) 1 none (some 7)),
 iL 45 44,
 iO 46 (.build [(.int .i64 0), (.int .i64 0), (.int .i64 0), (.str [])] [(0, 1, (.c (.int .i64 4))), (2, 1, (.t 41)), (3, 1, (.t 45))]),
 iM 47 1,
 iM 48 9,
 iB 49 .add 47 48,
 iN (.st (.t 4) (.t 46) 4 false (some 4)),
 iM 5 49,
 iK 6 (.int .i64 0)])
 .ret)
 .skip))))
 (.reg [
 iM 15 8,
 iI 16 .add 15 1,
 iM 8 16])))
@[go_sem] def mk_88 : List Bool := [K0,K0,K0,K0,K0,K1,K1,K0,K0,K1,K0,K1,K1,K1,K1,K1,K1,K1,K1,K1,K1,K1,K1,K1,K1,K1,K1,K1,K1,K1,K1,K1,K1,K1,K1,K1,K1,K1,K1,K1,K1,K1,K1,K1,K1,K1,K1,K1,K1,K1]
def billingref23_symbol_l1 : AC := .pre mk_88 billingref23_symbol_l1b
@[go_sem] theorem billingref23_symbol_l1_go : LoopRule billingref23_symbol_l1 billingref23_symbol_l1b mk_88 := loopRule
@[go_sem] theorem billingref23_symbol_l1_lp : LpRule billingref23_symbol_l1 billingref23_symbol_l1b mk_88 := lpRule
def billingref23_symbol_k1b : AC := (.seq (.reg [
 iO 50 (.build [(.int .i64 0), (.int .i64 0), (.int .i64 0), (.str [])] []),
 iM 51 1,
 iN (.st (.t 4) (.t 50) 4 false (some 4)),
 iM 5 51,
 iK 6 (.int .i64 1)])
 .ret)
def billingref23_symbol_k1 : AC := .pre mk_87 billingref23_symbol_k1b
def a_billingref23_symbol : AF := ⟨52, (.seq (.reg [
 iO 4 (.newbox [(.int .i64 0), (.int .i64 0), (.int .i64 0), (.str [])]),
 iK 5 (.int .i64 0),
 iK 6 (.int .i64 0)])
 (.seq (.reg [
 iO 10 (.call n_billingref23_Symbols [] false),
 iS 10,
 iM 7 10,
 iS 7])
 (.seq (.seq (.reg [
 iK 8 (.int .i64 0)])
 (.blk 0 (.pre mk_86 (.loop billingref23_symbol_l1))))
 billingref23_symbol_k1))), [.cell 4 (some 4), .tmp 5, .tmp 6]⟩
def a_billingref24_Reader_plain : AF := ⟨22, (.seq (.reg [
 iK 2 (.bool false)])
 (.seq (.reg [
 iM 4 0,
 iO 5 (.call n_billingref24_Reader_now [((.t 4), false)] true),
 iO 3 (.newbox [(.int .i64 0), (.int .i64 0), (.int .i64 0), (.str [])]),
 iN (.st (.t 3) (.t 5) 4 false (some 3))])
 (.seq (.reg [
 iM 6 0,
 iO 7 (.nck (.t 6) none),
 iF 8 7 2,
 iL 9 8,
 iI 10 .eql 9 0,
 iM 11 10,
 iG 12 (.fa (.t 3) 0 (some 3)) 11 true,
 iG 13 (.ld (.t 12) none false (some 3)) 11 true,
 iG 14 (.bin .eql (.t 13) (.c (.int .i64 1))) 11 true,
 iO 15 (.pick (.t 11) (.t 14) (.c (.bool false))),
 iM 16 15,
 iG 17 (.fa (.t 3) 3 (some 3)) 16 true,
 iG 18 (.ld (.t 17) none false (some 3)) 16 true,
 iG 19 (.call n_billingref23_Keyword [((.t 18), false)] false) 16 true,
 iG 20 (.un .not (.t 19)) 16 true,
 iO 21 (.pick (.t 16) (.t 20) (.c (.bool false))),
 iM 2 21])
 .ret))), [.tmp 2]⟩
def a_billingref24_Reader_next : AF := ⟨27, (.seq (.dreg [
 iC 2 0,
 iO 3 (.nck (.t 2) none),
 iF 4 3 2,
 iL 5 4,
 iI 6 .eql 5 0,
 iC 7 6,
 iG 8 (.cp (.t 0)) 7 true,
 iG 9 (.nck (.t 8) none) 7 true,
 iG 10 (.fa (.t 9) 1 none) 7 true,
 iG 11 (.ld (.t 10) none false none) 7 true,
 iG 12 (.cp (.t 0)) 7 true,
 iG 13 (.nck (.t 12) none) 7 true,
 iG 14 (.fa (.t 13) 0 none) 7 true,
 iG 15 (.ld (.t 14) none false none) 7 true,
 iG 16 (.len false (.t 15) none) 7 true,
 iG 17 (.bin .sub (.t 16) (.c (.int .i64 1))) 7 true,
 iG 18 (.bin .lss (.t 11) (.t 17)) 7 true,
 iO 19 (.pick (.t 7) (.t 18) (.c (.bool false)))])
 (.cond (.t 19) (.reg [
 iM 20 0,
 iO 21 (.nck (.t 20) none),
 iF 22 21 1,
 iL 23 22,
 iI 24 .add 23 1,
 iO 25 (.nck (.t 20) none),
 iF 26 25 1,
 iN (.st (.t 26) (.t 24) 1 false none)])
 .skip)), []⟩
def a_billingref24_Reader_digits : AF := ⟨36, (.seq (.reg [
 iO 6 (.newbox [(.int .i64 0), (.int .i64 0), (.int .i64 0), (.str [])])])
 (.seq (.reg [
 iM 8 0,
 iO 9 (.call n_billingref24_Reader_now [((.t 8), false)] true),
 iO 7 (.newbox [(.int .i64 0), (.int .i64 0), (.int .i64 0), (.str [])]),
 iN (.st (.t 7) (.t 9) 4 false (some 7))])
 (.seq (.seq (.reg [
 iO 10 (.fa (.t 7) 0 (some 7)),
 iO 11 (.ld (.t 10) none false (some 7)),
 iI 12 .neq 11 2,
 iM 13 12,
 iG 14 (.mv (.t 1)) 13 false,
 iG 15 (.bin .gtr (.t 14) (.c (.int .i64 0))) 13 false,
 iG 16 (.mv (.t 15)) 13 false,
 iG 17 (.fa (.t 7) 3 (some 7)) 16 true,
 iG 18 (.ld (.t 17) none false (some 7)) 16 true,
 iG 19 (.len true (.t 18) none) 16 true,
 iG 20 (.mv (.t 1)) 16 true,
 iG 21 (.bin .neq (.t 19) (.t 20)) 16 true,
 iG 22 (.pick (.t 16) (.t 21) (.c (.bool false))) 13 false,
 iO 23 (.pick (.t 13) (.c (.bool true)) (.t 22)),
 iM 24 23,
 iG 25 (.fa (.t 7) 1 (some 7)) 24 false,
 iG 26 (.ld (.t 25) none false (some 7)) 24 false,
 iG 27 (.mv (.t 2)) 24 false,
 iG 28 (.bin .gtr (.t 26) (.t 27)) 24 false,
 iO 29 (.pick (.t 24) (.c (.bool true)) (.t 28))])
 (.cond (.t 29) (.seq (.reg [
 iM 30 0,
 iO 31 (.call n_billingref24_Reader_fail [((.t 30), false), ((.c (.int .i64 1)), false)] true)])
 (.seq (.reg [
 iO 32 (.build [(.int .i64 0), (.int .i64 0), (.int .i64 0), (.str [])] []),
 iN (.st (.t 6) (.t 32) 4 false (some 6))])
 .ret))
 .skip))
 (.seq (.reg [
 iM 33 0,
 iO 34 (.call n_billingref24_Reader_next [((.t 33), false)] true)])
 (.seq (.reg [
 iO 35 (.ld (.t 7) (some 4) false (some 7)),
 iN (.st (.t 6) (.t 35) 4 false (some 6))])
 .ret))))), [.cell 6 (some 4)]⟩
@[go_sem] def mk_89 : List Bool := [K0,K0,K1,K0,K0,K0,K1,K1,K0,K0,K0,K1,K1,K1,K1,K1,K1,K1,K1,K1,K1,K1,K1,K1,K1,K1,K1,K1,K1,K1,K1,K1,K1,K1,K1,K1,K1,K1]
@[go_sem] def mk_90 : List Bool := [K1,K1,K0,K0,K0,K0,K0,K0,K0,K0,K1,K0,K0,K0,K0,K0,K0,K0,K0,K0,K0,K0,K0,K0,K0,K0,K0,K0,K0,K0,K0,K0,K0,K0,K0,K0,K0,K0,K0,K0,K0,K0,K0,K0,K0,K0,K0,K0,K1,K1,K1,K1,K1,K1,K1,K1,K1,K1]
@[go_sem] def mk_91 : List Bool := [K0,K0,K1,K0,K0,K0,K1,K1,K0,K1,K0,K1,K1,K1,K1,K1,K1,K1,K1,K1,K1,K1,K1,K1,K1,K1,K1,K1,K1,K1,K1,K1,K1,K1,K1,K1,K1,K1,K1,K1,K1,K1,K1,K1,K1,K1,K1,K1]
def billingref24_Day_l1b : AC := (.seq (.seq (.reg [
 iM 38 9,
 iM 39 0,
 iB 40 .lss 38 39])
 (.cond (.t 40) .skip
 (.exit 0)))
 (.seq (.blk 1 (.reg [
 iM 43 8,
 iI 44 .add 43 337,
 iM 45 9,
 iO 46 (.call n_billingref24_Length [((.t 45), false), ((.c (.int .i64 2)), false)] false),
 iB 47 .add 44 46,
 iM 8 47]))
 (.reg [
 iM 41 9,
 iI 42 .add 41 1,
 iM 9 42])))
@[go_sem] def mk_92 : List Bool := [K0,K0,K0,K0,K0,K0,K0,K0,K0,K0,K0,K0,K0,K0,K0,K0,K0,K0,K0,K0,K0,K0,K0,K0,K0,K0,K0,K0,K0,K0,K0,K0,K0,K0,K0,K0,K0,K0,K1,K1,K1,K1,K1,K1,K1,K1,K1,K1]
def billingref24_Day_l1 : AC := .pre mk_92 billingref24_Day_l1b
@[go_sem] theorem billingref24_Day_l1_go : LoopRule billingref24_Day_l1 billingref24_Day_l1b mk_92 := loopRule
@[go_sem] theorem billingref24_Day_l1_lp : LpRule billingref24_Day_l1 billingref24_Day_l1b mk_92 := lpRule
def billingref24_Day_l2b : AC := (.seq (.seq (.reg [
 iM 48 10,
 iM 49 1,
 iB 50 .lss 48 49])
 (.cond (.t 50) .skip
 (.exit 2)))
 (.seq (.blk 3 (.reg [
 iM 53 8,
 iM 54 0,
 iM 55 10,
 iO 56 (.call n_billingref24_Length [((.t 54), false), ((.t 55), false)] false),
 iB 57 .add 53 56,
 iM 8 57]))
 (.reg [
 iM 51 10,
 iI 52 .add 51 1,
 iM 10 52])))
@[go_sem] def mk_93 : List Bool := [K0,K0,K0,K0,K0,K0,K0,K0,K0,K0,K0,K0,K0,K0,K0,K0,K0,K0,K0,K0,K0,K0,K0,K0,K0,K0,K0,K0,K0,K0,K0,K0,K0,K0,K0,K0,K0,K0,K0,K0,K0,K0,K0,K0,K0,K0,K0,K0,K1,K1,K1,K1,K1,K1,K1,K1,K1,K1]
def billingref24_Day_l2 : AC := .pre mk_93 billingref24_Day_l2b
@[go_sem] theorem billingref24_Day_l2_go : LoopRule billingref24_Day_l2 billingref24_Day_l2b mk_93 := loopRule
@[go_sem] theorem billingref24_Day_l2_lp : LpRule billingref24_Day_l2 billingref24_Day_l2b mk_93 := lpRule
def billingref24_Day_k1b : AC := (.seq (.reg [
 iM 58 8,
 iM 6 58,
 iK 7 (.bool true)])
 .ret)
def billingref24_Day_k1 : AC := .pre mk_90 billingref24_Day_k1b
def billingref24_Day_k2b : AC := (.seq (.seq (.reg [
 iK 10 (.int .i64 1)])
 (.blk 2 (.loop billingref24_Day_l2)))
 billingref24_Day_k1)
def billingref24_Day_k2 : AC := .pre mk_91 billingref24_Day_k2b
def a_billingref24_Day : AF := ⟨59, (.seq (.reg [
 iK 6 (.int .i64 0),
 iK 7 (.bool false)])
 (.seq (.seq (.reg [
 iM 11 0,
 iI 12 .lss 11 2000,
 iM 13 12,
 iG 14 (.mv (.t 0)) 13 false,
 iG 15 (.bin .gtr (.t 14) (.c (.int .i64 2399))) 13 false,
 iO 16 (.pick (.t 13) (.c (.bool true)) (.t 15)),
 iM 17 16,
 iG 18 (.mv (.t 1)) 17 false,
 iG 19 (.bin .lss (.t 18) (.c (.int .i64 1))) 17 false,
 iO 20 (.pick (.t 17) (.c (.bool true)) (.t 19)),
 iM 21 20,
 iG 22 (.mv (.t 1)) 21 false,
 iG 23 (.bin .gtr (.t 22) (.c (.int .i64 12))) 21 false,
 iO 24 (.pick (.t 21) (.c (.bool true)) (.t 23)),
 iM 25 24,
 iG 26 (.mv (.t 2)) 25 false,
 iG 27 (.bin .lss (.t 26) (.c (.int .i64 1))) 25 false,
 iO 28 (.pick (.t 25) (.c (.bool true)) (.t 27)),
 iM 29 28,
 iG 30 (.mv (.t 2)) 29 false,
 iG 31 (.mv (.t 0)) 29 false,
 iG 32 (.mv (.t 1)) 29 false,
 iG 33 (.call n_billingref24_Length [((.t 31), false), ((.t 32), false)] false) 29 false,
 iG 34 (.bin .gtr (.t 30) (.t 33)) 29 false,
 iO 35 (.pick (.t 29) (.c (.bool true)) (.t 34))])
 (.cond (.t 35) (.seq (.reg [
 iK 6 (.int .i64 0),
 iK 7 (.bool false)])
 .ret)
 .skip))
 (.seq (.reg [
 iM 36 2,
 iI 37 .sub 36 1,
 iM 8 37])
 (.seq (.seq (.reg [
 iK 9 (.int .i64 2000)])
 (.blk 0 (.pre mk_89 (.loop billingref24_Day_l1))))
 billingref24_Day_k2)))), [.tmp 6, .tmp 7]⟩
def a_billingref24_Reader_is : AF := ⟨29, (.seq (.reg [
 iK 4 (.bool false)])
 (.seq (.reg [
 iM 6 0,
 iO 7 (.call n_billingref24_Reader_now [((.t 6), false)] true),
 iO 5 (.newbox [(.int .i64 0), (.int .i64 0), (.int .i64 0), (.str [])]),
 iN (.st (.t 5) (.t 7) 4 false (some 5))])
 (.seq (.reg [
 iM 8 0,
 iO 9 (.nck (.t 8) none),
 iF 10 9 2,
 iL 11 10,
 iI 12 .eql 11 0,
 iM 13 12,
 iG 14 (.fa (.t 5) 0 (some 5)) 13 true,
 iG 15 (.ld (.t 14) none false (some 5)) 13 true,
 iG 16 (.bin .eql (.t 15) (.c (.int .i64 1))) 13 true,
 iG 17 (.mv (.t 16)) 13 true,
 iG 18 (.fa (.t 5) 0 (some 5)) 17 false,
 iG 19 (.ld (.t 18) none false (some 5)) 17 false,
 iG 20 (.bin .eql (.t 19) (.c (.int .i64 4))) 17 false,
 iG 21 (.pick (.t 17) (.c (.bool true)) (.t 20)) 13 true,
 iO 22 (.pick (.t 13) (.t 21) (.c (.bool false))),
 iM 23 22,
 iG 24 (.fa (.t 5) 3 (some 5)) 23 true,
 iG 25 (.ld (.t 24) none false (some 5)) 23 true,
 iG 26 (.mv (.t 1)) 23 true,
 iG 27 (.bin .eql (.t 25) (.t 26)) 23 true,
 iO 28 (.pick (.t 23) (.t 27) (.c (.bool false))),
 iM 4 28])
 .ret))), [.tmp 4]⟩
@[go_sem] def mk_94 : List Bool := [K0,K0,K0,K1,K0,K0,K1,K1,K1,K1,K1,K1,K1,K1,K1,K1,K1,K1,K1,K1,K1,K1]
def billingref24_Reader_slot_l1b : AC := (.seq (.seq (.reg [
 iM 11 0,
 iO 12 (.call n_billingref24_Reader_accept [((.t 11), false), ((.c (.str [43])), false)] true)])
 (.cond (.t 12) .skip
 (.exit 0)))
 (.blk 1 (.seq (.reg [
 iM 13 0,
 iO 14 (.call n_billingref24_Days [] false),
 iS 14,
 iM 15 3,
 iI 16 .add 15 1,
 iS 14,
 iO 17 (.call n_billingref24_Reader_word [((.t 13), false), ((.t 14), false), ((.t 16), false)] true),
 iM 3 17])
 (.reg [
 iM 18 4,
 iM 19 3,
 iO 20 (.bin .shl (.c (.int .i64 1)) (.t 19)),
 iB 21 .or 18 20,
 iM 4 21]))))
@[go_sem] def mk_95 : List Bool := [K0,K0,K0,K0,K0,K0,K0,K0,K0,K0,K0,K1,K1,K1,K1,K1,K1,K1,K1,K1,K1,K1]
def billingref24_Reader_slot_l1 : AC := .pre mk_95 billingref24_Reader_slot_l1b
@[go_sem] theorem billingref24_Reader_slot_l1_go : LoopRule billingref24_Reader_slot_l1 billingref24_Reader_slot_l1b mk_95 := loopRule
@[go_sem] theorem billingref24_Reader_slot_l1_lp : LpRule billingref24_Reader_slot_l1 billingref24_Reader_slot_l1b mk_95 := lpRule
def billingref24_Reader_slot_k1b : AC := (.seq (.reg [
 iM 22 4,
 iO 23 (.build [(.int .i64 0), (.int .i64 0), (.int .i64 0)] [(0, 1, (.t 22))]),
 iO 5 (.newbox [(.int .i64 0), (.int .i64 0), (.int .i64 0)]),
 iN (.st (.t 5) (.t 23) 3 false (some 5))])
 (.seq (.reg [
 iM 24 0,
 iO 25 (.call n_billingref24_Reader_time [((.t 24), false), ((.c (.bool false)), false)] true),
 iO 26 (.fa (.t 5) 1 (some 5)),
 iN (.st (.t 26) (.t 25) 1 false (some 5))])
 (.seq (.reg [
 iM 27 0,
 iO 28 (.call n_billingref24_Reader_expect [((.t 27), false), ((.c (.str [45])), false)] true)])
 (.seq (.reg [
 iM 29 0,
 iO 30 (.call n_billingref24_Reader_time [((.t 29), false), ((.c (.bool true)), false)] true),
 iO 31 (.fa (.t 5) 2 (some 5)),
 iN (.st (.t 31) (.t 30) 1 false (some 5))])
 (.seq (.reg [
 iO 32 (.ld (.t 5) (some 3) false (some 5)),
 iN (.st (.t 2) (.t 32) 3 false (some 2))])
 .ret)))))
def billingref24_Reader_slot_k1 : AC := .pre mk_94 billingref24_Reader_slot_k1b
def a_billingref24_Reader_slot : AF := ⟨33, (.seq (.reg [
 iO 2 (.newbox [(.int .i64 0), (.int .i64 0), (.int .i64 0)])])
 (.seq (.reg [
 iM 6 0,
 iO 7 (.call n_billingref24_Days [] false),
 iS 7,
 iS 7,
 iO 8 (.call n_billingref24_Reader_word [((.t 6), false), ((.t 7), false), ((.c (.int .i64 0)), false)] true),
 iM 3 8])
 (.seq (.reg [
 iM 9 3,
 iO 10 (.bin .shl (.c (.int .i64 1)) (.t 9)),
 iM 4 10])
 (.seq (.blk 0 (.pre mk_27 (.loop billingref24_Reader_slot_l1)))
 billingref24_Reader_slot_k1)))), [.cell 2 (some 3)]⟩
def a_billingref24_Reader_word : AF := ⟨32, (.seq (.reg [
 iK 6 (.int .i64 0)])
 (.seq (.reg [
 iM 9 0,
 iO 10 (.call n_billingref24_Reader_now [((.t 9), false)] true),
 iO 7 (.newbox [(.int .i64 0), (.int .i64 0), (.int .i64 0), (.str [])]),
 iN (.st (.t 7) (.t 10) 4 false (some 7))])
 (.seq (.reg [
 iM 11 1,
 iO 12 (.fa (.t 7) 3 (some 7)),
 iO 13 (.ld (.t 12) none false (some 7)),
 iO 14 (.call n_billingref24_Place [((.t 11), false), ((.t 13), false)] false),
 iM 8 14])
 (.seq (.seq (.reg [
 iO 15 (.fa (.t 7) 0 (some 7)),
 iO 16 (.ld (.t 15) none false (some 7)),
 iI 17 .neq 16 1,
 iM 18 17,
 iG 19 (.mv (.t 8)) 18 false,
 iG 20 (.mv (.t 2)) 18 false,
 iG 21 (.bin .lss (.t 19) (.t 20)) 18 false,
 iO 22 (.pick (.t 18) (.c (.bool true)) (.t 21)),
 iM 23 22,
 iG 24 (.mv (.t 8)) 23 false,
 iG 25 (.bin .lss (.t 24) (.c (.int .i64 0))) 23 false,
 iO 26 (.pick (.t 23) (.c (.bool true)) (.t 25))])
 (.cond (.t 26) (.seq (.reg [
 iM 27 0,
 iO 28 (.call n_billingref24_Reader_fail [((.t 27), false), ((.c (.int .i64 1)), false)] true)])
 (.seq (.reg [
 iK 6 (.int .i64 0)])
 .ret))
 .skip))
 (.seq (.reg [
 iM 29 0,
 iO 30 (.call n_billingref24_Reader_next [((.t 29), false)] true)])
 (.seq (.reg [
 iM 31 8,
 iM 6 31])
 .ret)))))), [.tmp 6]⟩
@[go_sem] def mk_96 : List Bool := [K1]
def a_billingref24_Kinds : AF := ⟨2, (.seq (.reg [
 iK 0 (.sl true 1 [])])
 (.pre mk_96 (.seq (.reg [
 iO 1 (.bsl 1 4 (.str []) [(0, (.c (.str [118, 111, 105, 99, 101]))), (1, (.c (.str [116, 101, 120, 116]))), (2, (.c (.str [100, 97, 116, 97]))), (3, (.c (.str [99, 111, 110, 116, 101, 110, 116])))]),
 iM 0 1,
 iS 0])
 .ret))), [.tmp 0]⟩
def a_billingref24_Reader_either : AF := ⟨7, (.seq (.reg [
 iK 2 (.str [])])
 (.seq (.seq (.reg [
 iM 3 0,
 iO 4 (.call n_billingref24_Reader_accept [((.t 3), false), ((.c (.str [97, 110, 121])), false)] true)])
 (.cond (.t 4) (.seq (.reg [
 iK 2 (.str [])])
 .ret)
 .skip))
 (.seq (.reg [
 iM 5 0,
 iO 6 (.call n_billingref24_Reader_name [((.t 5), false)] true),
 iM 2 6])
 .ret))), [.tmp 2]⟩
def a_billingref24_Reader_number : AF := ⟨21, (.seq (.reg [
 iK 2 (.int .i64 0)])
 (.seq (.reg [
 iM 4 0,
 iO 5 (.call n_billingref24_Reader_now [((.t 4), false)] true),
 iO 3 (.newbox [(.int .i64 0), (.int .i64 0), (.int .i64 0), (.str [])]),
 iN (.st (.t 3) (.t 5) 4 false (some 3))])
 (.seq (.seq (.reg [
 iO 6 (.fa (.t 3) 3 (some 3)),
 iO 7 (.ld (.t 6) none false (some 3)),
 iO 8 (.len true (.t 7) none),
 iI 9 .gtr 8 1,
 iM 10 9,
 iG 11 (.fa (.t 3) 3 (some 3)) 10 true,
 iG 12 (.ld (.t 11) none false (some 3)) 10 true,
 iG 13 (.idx (.t 12) (.c (.int .i64 0)) none 1 false) 10 true,
 iG 14 (.bin .eql (.t 13) (.c (.int .u8 48))) 10 true,
 iO 15 (.pick (.t 10) (.t 14) (.c (.bool false)))])
 (.cond (.t 15) (.seq (.reg [
 iM 16 0,
 iO 17 (.call n_billingref24_Reader_fail [((.t 16), false), ((.c (.int .i64 1)), false)] true)])
 (.seq (.reg [
 iK 2 (.int .i64 0)])
 .ret))
 .skip))
 (.seq (.reg [
 iM 18 0,
 iO 19 (.call n_billingref24_Reader_digits [((.t 18), false), ((.c (.int .i64 0)), false), ((.c (.int .i64 9999999999999999)), false)] true),
 iO 20 (.fld (.t 19) 1 1 false),
 iM 2 20])
 .ret)))), [.tmp 2]⟩
def a_billingref24_Reader_step : AF := ⟨21, (.seq (.reg [
 iO 2 (.newbox [(.int .i64 0), (.int .i64 0), (.int .i64 0)])])
 (.seq (.reg [
 iO 4 (.build [(.int .i64 0), (.int .i64 0), (.int .i64 0)] []),
 iO 3 (.newbox [(.int .i64 0), (.int .i64 0), (.int .i64 0)]),
 iN (.st (.t 3) (.t 4) 3 false (some 3))])
 (.seq (.seq (.reg [
 iM 5 0,
 iO 6 (.call n_billingref24_Reader_accept [((.t 5), false), ((.c (.str [117, 112, 116, 111])), false)] true)])
 (.cond (.t 6) (.reg [
 iM 7 0,
 iO 8 (.call n_billingref24_Reader_number [((.t 7), false)] true),
 iO 9 (.fa (.t 3) 0 (some 3)),
 iN (.st (.t 9) (.t 8) 1 false (some 3))])
 .skip))
 (.seq (.reg [
 iM 10 0,
 iO 11 (.call n_billingref24_Reader_expect [((.t 10), false), ((.c (.str [112, 101, 114])), false)] true)])
 (.seq (.reg [
 iM 12 0,
 iO 13 (.call n_billingref24_Reader_number [((.t 12), false)] true),
 iO 14 (.fa (.t 3) 1 (some 3)),
 iN (.st (.t 14) (.t 13) 1 false (some 3))])
 (.seq (.reg [
 iM 15 0,
 iO 16 (.call n_billingref24_Reader_expect [((.t 15), false), ((.c (.str [97, 116])), false)] true)])
 (.seq (.reg [
 iM 17 0,
 iO 18 (.call n_billingref24_Reader_number [((.t 17), false)] true),
 iO 19 (.fa (.t 3) 2 (some 3)),
 iN (.st (.t 19) (.t 18) 1 false (some 3))])
 (.seq (.reg [
 iO 20 (.ld (.t 3) (some 3) false (some 3)),
 iN (.st (.t 2) (.t 20) 3 false (some 2))])
 .ret)))))))), [.cell 2 (some 3)]⟩
def billingref24_Reader_expr_l1b : AC := (.seq (.seq (.reg [
 iM 6 0,
 iO 7 (.call n_billingref24_Reader_accept [((.t 6), false), ((.c (.str [111, 114])), false)] true)])
 (.cond (.t 7) .skip
 (.exit 0)))
 (.blk 1 (.dreg [
 iO 8 (.ld (.t 3) (some 4) false (some 3)),
 iC 9 0,
 iO 10 (.call n_billingref24_Reader_both [((.t 9), false)] true),
 iO 11 (.call n_billingref24_two [((.c (.int .i64 6)), false), ((.t 8), false), ((.t 10), false)] false),
 iN (.st (.t 3) (.t 11) 4 false (some 3))])))
def billingref24_Reader_expr_l1 : AC := .pre mk_43 billingref24_Reader_expr_l1b
@[go_sem] theorem billingref24_Reader_expr_l1_go : LoopRule billingref24_Reader_expr_l1 billingref24_Reader_expr_l1b mk_43 := loopRule
@[go_sem] theorem billingref24_Reader_expr_l1_lp : LpRule billingref24_Reader_expr_l1 billingref24_Reader_expr_l1b mk_43 := lpRule
def billingref24_Reader_expr_k1b : AC := (.seq (.reg [
 iO 12 (.ld (.t 3) (some 4) false (some 3)),
 iN (.st (.t 2) (.t 12) 4 false (some 2))])
 .ret)
def billingref24_Reader_expr_k1 : AC := .pre mk_42 billingref24_Reader_expr_k1b
def a_billingref24_Reader_expr : AF := ⟨13, (.seq (.reg [
 iO 2 (.newbox [(.int .i64 0), (.int .i64 0), (.str []), (.sl false 4 [])])])
 (.seq (.reg [
 iM 4 0,
 iO 5 (.call n_billingref24_Reader_both [((.t 4), false)] true),
 iO 3 (.newbox [(.int .i64 0), (.int .i64 0), (.str []), (.sl false 4 [])]),
 iN (.st (.t 3) (.t 5) 4 false (some 3))])
 (.seq (.blk 0 (.pre mk_41 (.loop billingref24_Reader_expr_l1)))
 billingref24_Reader_expr_k1))), [.cell 2 (some 4)]⟩
def billingref24_SameSteps_l1b : AC := (.seq (.seq (.reg [
 iM 11 5,
 iC 12 0,
 iO 13 (.len false (.t 12) (some 0)),
 iB 14 .lss 11 13])
 (.cond (.t 14) .skip
 (.exit 0)))
 (.seq (.blk 1 (.seq (.dreg [
 iC 17 0,
 iC 18 5,
 iO 19 (.ia (.t 17) (.t 18) 3 none (some 0)),
 iO 20 (.ld (.t 19) (some 3) false none),
 iC 21 1,
 iC 22 5,
 iO 23 (.ia (.t 21) (.t 22) 3 none (some 1)),
 iO 24 (.ld (.t 23) (some 3) false none),
 iO 25 (.eqs true [0, 0, 0] (.t 20) (.t 24))])
 (.cond (.t 25) (.seq (.reg [
 iK 4 (.bool false)])
 .ret)
 .skip)))
 (.reg [
 iM 15 5,
 iI 16 .add 15 1,
 iM 5 16])))
def billingref24_SameSteps_l1 : AC := .pre mk_29 billingref24_SameSteps_l1b
@[go_sem] theorem billingref24_SameSteps_l1_go : LoopRule billingref24_SameSteps_l1 billingref24_SameSteps_l1b mk_29 := loopRule
@[go_sem] theorem billingref24_SameSteps_l1_lp : LpRule billingref24_SameSteps_l1 billingref24_SameSteps_l1b mk_29 := lpRule
def billingref24_SameSteps_k1b : AC := (.seq (.reg [
 iK 4 (.bool true)])
 .ret)
def billingref24_SameSteps_k1 : AC := .pre mk_28 billingref24_SameSteps_k1b
def a_billingref24_SameSteps : AF := ⟨26, (.seq (.reg [
 iK 4 (.bool false)])
 (.seq (.seq (.reg [
 iC 6 0,
 iO 7 (.len false (.t 6) (some 0)),
 iC 8 1,
 iO 9 (.len false (.t 8) (some 1)),
 iB 10 .neq 7 9])
 (.cond (.t 10) (.seq (.reg [
 iK 4 (.bool false)])
 .ret)
 .skip))
 (.seq (.seq (.reg [
 iK 5 (.int .i64 0)])
 (.blk 0 (.pre mk_27 (.loop billingref24_SameSteps_l1))))
 billingref24_SameSteps_k1))), [.tmp 4]⟩
@[go_sem] def mk_97 : List Bool := [K1,K0,K0,K0,K0,K0,K0,K0,K0,K1,K1]
@[go_sem] def mk_98 : List Bool := [K1,K0,K0,K1,K0,K0,K0,K0,K0,K1,K1,K1,K1,K1,K1,K1,K1,K1]
def parser_reader_negated_l1b : AC := (.seq (.seq (.reg [
 iM 5 0,
 iO 6 (.call n_parser_reader_takeWord [((.t 5), false), ((.c (.str [110, 111, 116])), false)] true)])
 (.cond (.t 6) .skip
 (.exit 0)))
 (.blk 1 (.reg [
 iM 7 3,
 iI 8 .add 7 1,
 iM 3 8])))
def parser_reader_negated_l1 : AC := .pre mk_68 parser_reader_negated_l1b
@[go_sem] theorem parser_reader_negated_l1_go : LoopRule parser_reader_negated_l1 parser_reader_negated_l1b mk_68 := loopRule
@[go_sem] theorem parser_reader_negated_l1_lp : LpRule parser_reader_negated_l1 parser_reader_negated_l1b mk_68 := lpRule
def parser_reader_negated_l2b : AC := (.seq (.seq (.reg [
 iM 11 3,
 iI 12 .gtr 11 0])
 (.cond (.t 12) .skip
 (.exit 2)))
 (.seq (.blk 3 (.reg [
 iO 15 (.ld (.t 4) (some 4) false (some 4)),
 iO 16 (.bsl 4 1 (.agg [(.int .i64 0), (.int .i64 0), (.str []), (.sl false 4 [])]) [(0, (.t 15))]),
 iS 16,
 iO 17 (.build [(.int .i64 0), (.int .i64 0), (.str []), (.sl false 4 [])] [(0, 1, (.c (.int .i64 4))), (3, 1, (.t 16))]),
 iN (.st (.t 4) (.t 17) 4 false (some 4))]))
 (.reg [
 iM 13 3,
 iI 14 .sub 13 1,
 iM 3 14])))
@[go_sem] def mk_99 : List Bool := [K0,K0,K0,K0,K0,K0,K0,K0,K0,K0,K0,K1,K1,K1,K1,K1,K1,K1]
def parser_reader_negated_l2 : AC := .pre mk_99 parser_reader_negated_l2b
@[go_sem] theorem parser_reader_negated_l2_go : LoopRule parser_reader_negated_l2 parser_reader_negated_l2b mk_99 := loopRule
@[go_sem] theorem parser_reader_negated_l2_lp : LpRule parser_reader_negated_l2 parser_reader_negated_l2b mk_99 := lpRule
def parser_reader_negated_k1b : AC := (.seq (.reg [
 iO 18 (.ld (.t 4) (some 4) false (some 4)),
 iN (.st (.t 2) (.t 18) 4 false (some 2))])
 .ret)
def parser_reader_negated_k1 : AC := .pre mk_98 parser_reader_negated_k1b
def parser_reader_negated_k2b : AC := (.seq (.reg [
 iM 9 0,
 iO 10 (.call n_parser_reader_compared [((.t 9), false)] true),
 iO 4 (.newbox [(.int .i64 0), (.int .i64 0), (.str []), (.sl false 4 [])]),
 iN (.st (.t 4) (.t 10) 4 false (some 4))])
 (.seq (.blk 2 (.pre mk_97 (.loop parser_reader_negated_l2)))
 parser_reader_negated_k1))
def parser_reader_negated_k2 : AC := .pre mk_68 parser_reader_negated_k2b
def a_parser_reader_negated : AF := ⟨19, (.seq (.reg [
 iO 2 (.newbox [(.int .i64 0), (.int .i64 0), (.str []), (.sl false 4 [])])])
 (.seq (.reg [
 iK 3 (.int .i64 0)])
 (.seq (.blk 0 (.loop parser_reader_negated_l1))
 parser_reader_negated_k2))), [.cell 2 (some 4)]⟩
def a_lexer_fail : AF := ⟨8, (.reg [
 iM 4 0,
 iM 5 1,
 iO 6 (.build [(.int .i64 0), (.int .i64 0)] [(0, 1, (.t 4)), (1, 1, (.t 5))]),
 iO 7 (.mki 66 (.t 6)),
 iN (.pan (.t 7))]), []⟩
def a_calendar_Length : AF := ⟨22, (.seq (.reg [
 iK 4 (.int .i64 0)])
 (.seq (.seq (.reg [
 iM 5 0,
 iI 6 .lss 5 2000,
 iM 7 6,
 iG 8 (.mv (.t 0)) 7 false,
 iG 9 (.bin .gtr (.t 8) (.c (.int .i64 2399))) 7 false,
 iO 10 (.pick (.t 7) (.c (.bool true)) (.t 9)),
 iM 11 10,
 iG 12 (.mv (.t 1)) 11 false,
 iG 13 (.bin .lss (.t 12) (.c (.int .i64 1))) 11 false,
 iO 14 (.pick (.t 11) (.c (.bool true)) (.t 13)),
 iM 15 14,
 iG 16 (.mv (.t 1)) 15 false,
 iG 17 (.bin .gtr (.t 16) (.c (.int .i64 12))) 15 false,
 iO 18 (.pick (.t 15) (.c (.bool true)) (.t 17))])
 (.cond (.t 18) (.seq (.reg [
 iK 4 (.int .i64 0)])
 .ret)
 .skip))
 (.seq (.reg [
 iM 19 0,
 iM 20 1,
 iO 21 (.call n_calendar_days [((.t 19), false), ((.t 20), false)] false),
 iM 4 21])
 .ret))), [.tmp 4]⟩
def a_calendar_before : AF := ⟨26, (.seq (.reg [
 iK 2 (.int .i64 0)])
 (.seq (.reg [
 iM 5 0,
 iI 6 .sub 5 2000,
 iM 3 6])
 (.seq (.reg [
 iM 7 3,
 iO 8 (.bin .mul (.c (.int .i64 365)) (.t 7)),
 iM 4 8])
 (.seq (.seq (.reg [
 iM 9 3,
 iI 10 .gtr 9 0])
 (.cond (.t 10) (.reg [
 iM 11 4,
 iM 12 3,
 iI 13 .sub 12 1,
 iI 14 .quo 13 4,
 iM 15 3,
 iI 16 .sub 15 1,
 iI 17 .quo 16 100,
 iB 18 .sub 14 17,
 iM 19 3,
 iI 20 .sub 19 1,
 iI 21 .quo 20 400,
 iB 22 .add 18 21,
 iI 23 .add 22 1,
 iB 24 .add 11 23,
 iM 4 24])
 .skip))
 (.seq (.reg [
 iM 25 4,
 iM 2 25])
 .ret))))), [.tmp 2]⟩
def a_calendar_days : AF := ⟨17, (.seq (.reg [
 iK 4 (.int .i64 0)])
 (.seq (.reg [
 iO 6 (.build [(.int .i64 0), (.int .i64 0), (.int .i64 0), (.int .i64 0), (.int .i64 0), (.int .i64 0), (.int .i64 0), (.int .i64 0), (.int .i64 0), (.int .i64 0), (.int .i64 0), (.int .i64 0)] [(0, 1, (.c (.int .i64 31))), (1, 1, (.c (.int .i64 28))), (2, 1, (.c (.int .i64 31))), (3, 1, (.c (.int .i64 30))), (4, 1, (.c (.int .i64 31))), (5, 1, (.c (.int .i64 30))), (6, 1, (.c (.int .i64 31))), (7, 1, (.c (.int .i64 31))), (8, 1, (.c (.int .i64 30))), (9, 1, (.c (.int .i64 31))), (10, 1, (.c (.int .i64 30))), (11, 1, (.c (.int .i64 31)))]),
 iO 5 (.newbox [(.int .i64 0), (.int .i64 0), (.int .i64 0), (.int .i64 0), (.int .i64 0), (.int .i64 0), (.int .i64 0), (.int .i64 0), (.int .i64 0), (.int .i64 0), (.int .i64 0), (.int .i64 0)]),
 iN (.st (.t 5) (.t 6) 12 false (some 5))])
 (.seq (.seq (.reg [
 iM 7 1,
 iI 8 .eql 7 2,
 iM 9 8,
 iG 10 (.mv (.t 0)) 9 true,
 iG 11 (.call n_calendar_leap [((.t 10), false)] false) 9 true,
 iO 12 (.pick (.t 9) (.t 11) (.c (.bool false)))])
 (.cond (.t 12) (.seq (.reg [
 iK 4 (.int .i64 29)])
 .ret)
 .skip))
 (.seq (.reg [
 iM 13 1,
 iI 14 .sub 13 1,
 iO 15 (.ia (.t 5) (.t 14) 1 (some 12) (some 5)),
 iO 16 (.ld (.t 15) none false (some 5)),
 iM 4 16])
 .ret)))), [.tmp 4]⟩
def a_parser_reader_symbol : AF := ⟨16, (.seq (.reg [
 iK 4 (.bool false)])
 (.seq (.reg [
 iM 5 0,
 iO 6 (.call n_parser_reader_peek [((.t 5), false)] true),
 iO 7 (.fld (.t 6) 0 1 false),
 iI 8 .eql 7 4,
 iM 9 8,
 iG 10 (.mv (.t 0)) 9 true,
 iG 11 (.call n_parser_reader_peek [((.t 10), false)] true) 9 true,
 iG 12 (.fld (.t 11) 3 1 false) 9 true,
 iG 13 (.mv (.t 1)) 9 true,
 iG 14 (.bin .eql (.t 12) (.t 13)) 9 true,
 iO 15 (.pick (.t 9) (.t 14) (.c (.bool false))),
 iM 4 15])
 .ret)), [.tmp 4]⟩
def a_parser_reader_day : AF := ⟨25, (.seq (.reg [
 iK 4 (.int .i64 0)])
 (.seq (.reg [
 iM 7 0,
 iO 8 (.call n_parser_reader_peek [((.t 7), false)] true),
 iO 5 (.newbox [(.int .i64 0), (.int .i64 0), (.int .i64 0), (.str [])]),
 iN (.st (.t 5) (.t 8) 4 false (some 5))])
 (.seq (.reg [
 iO 9 (.fa (.t 5) 3 (some 5)),
 iO 10 (.ld (.t 9) none false (some 5)),
 iO 11 (.call n_parser_weekday [((.t 10), false)] false),
 iM 6 11])
 (.seq (.seq (.reg [
 iO 12 (.fa (.t 5) 0 (some 5)),
 iO 13 (.ld (.t 12) none false (some 5)),
 iI 14 .neq 13 1,
 iM 15 14,
 iG 16 (.mv (.t 6)) 15 false,
 iG 17 (.mv (.t 1)) 15 false,
 iG 18 (.bin .leq (.t 16) (.t 17)) 15 false,
 iO 19 (.pick (.t 15) (.c (.bool true)) (.t 18))])
 (.cond (.t 19) (.reg [
 iO 20 (.ld (.t 5) (some 4) false (some 5)),
 iO 21 (.call n_parser_fail [((.t 20), false), ((.c (.int .i64 1)), false)] false)])
 .skip))
 (.seq (.reg [
 iM 22 0,
 iO 23 (.call n_parser_reader_skip [((.t 22), false)] true)])
 (.seq (.reg [
 iM 24 6,
 iM 4 24])
 .ret)))))), [.tmp 4]⟩
def a_parser_reader_time : AF := ⟨20, (.seq (.reg [
 iK 4 (.int .i64 0)])
 (.seq (.reg [
 iM 7 0,
 iM 8 1,
 iO 9 (.call n_parser_reader_fixed [((.t 7), false), ((.c (.int .i64 2)), false), ((.t 8), false)] true),
 iM 5 9])
 (.seq (.reg [
 iM 10 0,
 iO 11 (.call n_parser_reader_needSymbol [((.t 10), false), ((.c (.str [58])), false)] true)])
 (.seq (.reg [
 iK 6 (.int .i64 59)])
 (.seq (.seq (.reg [
 iM 12 5,
 iI 13 .eql 12 24])
 (.cond (.t 13) (.reg [
 iK 6 (.int .i64 0)])
 .skip))
 (.seq (.reg [
 iM 14 5,
 iO 15 (.bin .mul (.c (.int .i64 60)) (.t 14)),
 iM 16 0,
 iM 17 6,
 iO 18 (.call n_parser_reader_fixed [((.t 16), false), ((.c (.int .i64 2)), false), ((.t 17), false)] true),
 iB 19 .add 15 18,
 iM 4 19])
 .ret)))))), [.tmp 4]⟩
def a_billingref23_inWord : AF := ⟨13, (.seq (.reg [
 iK 2 (.bool false)])
 (.seq (.reg [
 iM 3 0,
 iO 4 (.call n_billingref23_Lower [((.t 3), false)] false),
 iM 5 4,
 iG 6 (.mv (.t 0)) 5 false,
 iG 7 (.call n_billingref23_Digit [((.t 6), false)] false) 5 false,
 iO 8 (.pick (.t 5) (.c (.bool true)) (.t 7)),
 iM 9 8,
 iG 10 (.mv (.t 0)) 9 false,
 iG 11 (.bin .eql (.t 10) (.c (.int .u8 45))) 9 false,
 iO 12 (.pick (.t 9) (.c (.bool true)) (.t 11)),
 iM 2 12])
 .ret)), [.tmp 2]⟩
@[go_sem] def mk_100 : List Bool := [K1,K0,K1,K0,K1,K1,K1,K1,K1,K1,K1,K1,K1,K1,K1,K1,K1,K1,K1,K1,K1,K1,K1]
def billingref23_Value_l1b : AC := (.seq (.seq (.reg [
 iM 5 4,
 iM 6 0,
 iO 7 (.len true (.t 6) none),
 iB 8 .lss 5 7,
 iM 9 8,
 iG 10 (.mv (.t 4)) 9 true,
 iG 11 (.bin .lss (.t 10) (.c (.int .i64 16))) 9 true,
 iO 12 (.pick (.t 9) (.t 11) (.c (.bool false)))])
 (.cond (.t 12) .skip
 (.exit 0)))
 (.seq (.blk 1 (.reg [
 iM 15 3,
 iO 16 (.bin .mul (.c (.int .i64 10)) (.t 15)),
 iM 17 0,
 iM 18 4,
 iO 19 (.idx (.t 17) (.t 18) none 1 false),
 iO 20 (.bin .sub (.t 19) (.c (.int .u8 48))),
 iO 21 (.cvi .i64 (.t 20)),
 iB 22 .add 16 21,
 iM 3 22]))
 (.reg [
 iM 13 4,
 iI 14 .add 13 1,
 iM 4 14])))
@[go_sem] def mk_101 : List Bool := [K0,K0,K0,K0,K0,K1,K1,K1,K1,K1,K1,K1,K1,K1,K1,K1,K1,K1,K1,K1,K1,K1,K1]
def billingref23_Value_l1 : AC := .pre mk_101 billingref23_Value_l1b
@[go_sem] theorem billingref23_Value_l1_go : LoopRule billingref23_Value_l1 billingref23_Value_l1b mk_101 := loopRule
@[go_sem] theorem billingref23_Value_l1_lp : LpRule billingref23_Value_l1 billingref23_Value_l1b mk_101 := lpRule
def billingref23_Value_k1b : AC := (.seq (.reg [
 iM 23 3,
 iM 2 23])
 .ret)
def billingref23_Value_k1 : AC := .pre mk_100 billingref23_Value_k1b
def a_billingref23_Value : AF := ⟨24, (.seq (.reg [
 iK 2 (.int .i64 0)])
 (.seq (.reg [
 iK 3 (.int .i64 0)])
 (.seq (.seq (.reg [
 iK 4 (.int .i64 0)])
 (.blk 0 (.pre mk_15 (.loop billingref23_Value_l1))))
 billingref23_Value_k1))), [.tmp 2]⟩
def a_billingref23_inText : AF := ⟨13, (.seq (.reg [
 iK 2 (.bool false)])
 (.seq (.reg [
 iM 3 0,
 iO 4 (.bin .geq (.t 3) (.c (.int .u8 32))),
 iM 5 4,
 iG 6 (.mv (.t 0)) 5 true,
 iG 7 (.bin .leq (.t 6) (.c (.int .u8 126))) 5 true,
 iO 8 (.pick (.t 5) (.t 7) (.c (.bool false))),
 iM 9 8,
 iG 10 (.mv (.t 0)) 9 true,
 iG 11 (.bin .neq (.t 10) (.c (.int .u8 34))) 9 true,
 iO 12 (.pick (.t 9) (.t 11) (.c (.bool false))),
 iM 2 12])
 .ret)), [.tmp 2]⟩
def a_billingref23_Symbols : AF := ⟨2, (.seq (.reg [
 iK 0 (.sl true 1 [])])
 (.pre mk_96 (.seq (.reg [
 iO 1 (.bsl 1 16 (.str []) [(0, (.c (.str [60, 62]))), (1, (.c (.str [60, 61]))), (2, (.c (.str [62, 61]))), (3, (.c (.str [59]))), (4, (.c (.str [44]))), (5, (.c (.str [43]))), (6, (.c (.str [45]))), (7, (.c (.str [58]))), (8, (.c (.str [40]))), (9, (.c (.str [41]))), (10, (.c (.str [61]))), (11, (.c (.str [60]))), (12, (.c (.str [62]))), (13, (.c (.str [42]))), (14, (.c (.str [47]))), (15, (.c (.str [37])))]),
 iM 0 1])
 .ret))), [.tmp 0]⟩
def a_billingref23_Keyword : AF := ⟨6, (.seq (.reg [
 iK 2 (.bool false)])
 (.seq (.reg [
 iO 3 (.bsl 1 39 (.str []) [(0, (.c (.str [116, 97, 114, 105, 102, 102]))), (1, (.c (.str [102, 114, 111, 109]))), (2, (.c (.str [115, 112, 108, 105, 116]))), (3, (.c (.str [122, 111, 110, 101]))), (4, (.c (.str [98, 97, 110, 100]))), (5, (.c (.str [111, 116, 104, 101, 114, 119, 105, 115, 101]))), (6, (.c (.str [114, 97, 116, 101]))), (7, (.c (.str [116, 111]))), (8, (.c (.str [97, 110, 121]))), (9, (.c (.str [105, 110]))), (10, (.c (.str [115, 101, 116, 117, 112]))), (11, (.c (.str [117, 112, 116, 111]))), (12, (.c (.str [112, 101, 114]))), (13, (.c (.str [97, 116]))), (14, (.c (.str [100, 105, 115, 99, 111, 117, 110, 116]))), (15, (.c (.str [112, 111, 105, 110, 116, 115]))), (16, (.c (.str [119, 104, 101, 110]))), (17, (.c (.str [97, 110, 100]))), (18, (.c (.str [111, 114]))), (19, (.c (.str [110, 111, 116]))), (20, (.c (.str [109, 111, 110]))), (21, (.c (.str [116, 117, 101]))), (22, (.c (.str [119, 101, 100]))), (23, (.c (.str [116, 104, 117]))), (24, (.c (.str [102, 114, 105]))), (25, (.c (.str [115, 97, 116]))), (26, (.c (.str [115, 117, 110]))), (27, (.c (.str [104, 111, 108, 105, 100, 97, 121]))), (28, (.c (.str [118, 111, 105, 99, 101]))), (29, (.c (.str [116, 101, 120, 116]))), (30, (.c (.str [100, 97, 116, 97]))), (31, (.c (.str [99, 111, 110, 116, 101, 110, 116]))), (32, (.c (.str [107, 105, 110, 100]))), (33, (.c (.str [117, 110, 105, 116, 115]))), (34, (.c (.str [119, 101, 101, 107, 100, 97, 121]))), (35, (.c (.str [109, 105, 110, 117, 116, 101]))), (36, (.c (.str [116, 111, 116, 97, 108]))), (37, (.c (.str [115, 112, 101, 110, 116]))), (38, (.c (.str [102, 97, 109, 105, 108, 121])))]),
 iM 4 0,
 iS 3,
 iO 5 (.call n_billingref23_Has [((.t 3), false), ((.t 4), false)] false),
 iM 2 5])
 .ret)), [.tmp 2]⟩
def a_billingref24_Length : AF := ⟨34, (.seq (.reg [
 iK 4 (.int .i64 0)])
 (.seq (.seq (.reg [
 iM 5 1,
 iI 6 .eql 5 2])
 (.cond (.t 6) (.seq (.seq (.reg [
 iM 7 0,
 iI 8 .rem 7 400,
 iI 9 .eql 8 0,
 iM 10 9,
 iG 11 (.mv (.t 0)) 10 false,
 iG 12 (.bin .rem (.t 11) (.c (.int .i64 4))) 10 false,
 iG 13 (.bin .eql (.t 12) (.c (.int .i64 0))) 10 false,
 iG 14 (.mv (.t 13)) 10 false,
 iG 15 (.mv (.t 0)) 14 true,
 iG 16 (.bin .rem (.t 15) (.c (.int .i64 100))) 14 true,
 iG 17 (.bin .neq (.t 16) (.c (.int .i64 0))) 14 true,
 iG 18 (.pick (.t 14) (.t 17) (.c (.bool false))) 10 false,
 iO 19 (.pick (.t 10) (.c (.bool true)) (.t 18))])
 (.cond (.t 19) (.seq (.reg [
 iK 4 (.int .i64 29)])
 .ret)
 .skip))
 (.seq (.reg [
 iK 4 (.int .i64 28)])
 .ret))
 .skip))
 (.seq (.seq (.reg [
 iM 20 1,
 iI 21 .eql 20 4,
 iM 22 21,
 iG 23 (.mv (.t 1)) 22 false,
 iG 24 (.bin .eql (.t 23) (.c (.int .i64 6))) 22 false,
 iO 25 (.pick (.t 22) (.c (.bool true)) (.t 24)),
 iM 26 25,
 iG 27 (.mv (.t 1)) 26 false,
 iG 28 (.bin .eql (.t 27) (.c (.int .i64 9))) 26 false,
 iO 29 (.pick (.t 26) (.c (.bool true)) (.t 28)),
 iM 30 29,
 iG 31 (.mv (.t 1)) 30 false,
 iG 32 (.bin .eql (.t 31) (.c (.int .i64 11))) 30 false,
 iO 33 (.pick (.t 30) (.c (.bool true)) (.t 32))])
 (.cond (.t 33) (.seq (.reg [
 iK 4 (.int .i64 30)])
 .ret)
 .skip))
 (.seq (.reg [
 iK 4 (.int .i64 31)])
 .ret)))), [.tmp 4]⟩
def a_billingref24_Days : AF := ⟨2, (.seq (.reg [
 iK 0 (.sl true 1 [])])
 (.pre mk_96 (.seq (.reg [
 iO 1 (.bsl 1 8 (.str []) [(0, (.c (.str [109, 111, 110]))), (1, (.c (.str [116, 117, 101]))), (2, (.c (.str [119, 101, 100]))), (3, (.c (.str [116, 104, 117]))), (4, (.c (.str [102, 114, 105]))), (5, (.c (.str [115, 97, 116]))), (6, (.c (.str [115, 117, 110]))), (7, (.c (.str [104, 111, 108, 105, 100, 97, 121])))]),
 iM 0 1])
 .ret))), [.tmp 0]⟩
def a_billingref24_Reader_time : AF := ⟨23, (.seq (.reg [
 iK 4 (.int .i64 0)])
 (.seq (.reg [
 iK 5 (.int .i64 23)])
 (.seq (.seq (.reg [
 iM 7 1])
 (.cond (.t 7) (.reg [
 iK 5 (.int .i64 24)])
 .skip))
 (.seq (.reg [
 iM 8 0,
 iM 9 5,
 iO 10 (.call n_billingref24_Reader_digits [((.t 8), false), ((.c (.int .i64 2)), false), ((.t 9), false)] true),
 iO 11 (.fld (.t 10) 1 1 false),
 iM 6 11])
 (.seq (.reg [
 iM 12 0,
 iO 13 (.call n_billingref24_Reader_expect [((.t 12), false), ((.c (.str [58])), false)] true)])
 (.seq (.reg [
 iK 5 (.int .i64 59)])
 (.seq (.seq (.reg [
 iM 14 6,
 iI 15 .eql 14 24])
 (.cond (.t 15) (.reg [
 iK 5 (.int .i64 0)])
 .skip))
 (.seq (.reg [
 iM 16 6,
 iO 17 (.bin .mul (.c (.int .i64 60)) (.t 16)),
 iM 18 0,
 iM 19 5,
 iO 20 (.call n_billingref24_Reader_digits [((.t 18), false), ((.c (.int .i64 2)), false), ((.t 19), false)] true),
 iO 21 (.fld (.t 20) 1 1 false),
 iB 22 .add 17 21,
 iM 4 22])
 .ret)))))))), [.tmp 4]⟩
@[go_sem] def mk_102 : List Bool := [K1,K1,K0,K0,K1,K1,K1,K1,K1,K1,K1,K1,K1,K1,K1,K1,K1,K1,K1]
def billingref24_Place_l1b : AC := (.seq (.seq (.reg [
 iM 6 5,
 iC 7 0,
 iO 8 (.len false (.t 7) (some 0)),
 iB 9 .lss 6 8])
 (.cond (.t 9) .skip
 (.exit 0)))
 (.seq (.blk 1 (.seq (.reg [
 iC 12 0,
 iM 13 5,
 iO 14 (.ia (.t 12) (.t 13) 1 none (some 0)),
 iL 15 14,
 iM 16 1,
 iB 17 .eql 15 16])
 (.cond (.t 17) (.seq (.reg [
 iM 18 5,
 iM 4 18])
 .ret)
 .skip)))
 (.reg [
 iM 10 5,
 iI 11 .add 10 1,
 iM 5 11])))
@[go_sem] def mk_103 : List Bool := [K0,K0,K0,K0,K1,K0,K1,K1,K1,K1,K1,K1,K1,K1,K1,K1,K1,K1,K1]
def billingref24_Place_l1 : AC := .pre mk_103 billingref24_Place_l1b
@[go_sem] theorem billingref24_Place_l1_go : LoopRule billingref24_Place_l1 billingref24_Place_l1b mk_103 := loopRule
@[go_sem] theorem billingref24_Place_l1_lp : LpRule billingref24_Place_l1 billingref24_Place_l1b mk_103 := lpRule
def billingref24_Place_k1b : AC := (.seq (.reg [
 iK 4 (.int .i64 (-1))])
 .ret)
def billingref24_Place_k1 : AC := .pre mk_102 billingref24_Place_k1b
def a_billingref24_Place : AF := ⟨19, (.seq (.reg [
 iS 0,
 iK 4 (.int .i64 0)])
 (.seq (.seq (.reg [
 iK 5 (.int .i64 0)])
 (.blk 0 (.loop billingref24_Place_l1)))
 billingref24_Place_k1)), [.tmp 4]⟩
def billingref24_Reader_both_l1b : AC := (.seq (.seq (.reg [
 iM 6 0,
 iO 7 (.call n_billingref24_Reader_accept [((.t 6), false), ((.c (.str [97, 110, 100])), false)] true)])
 (.cond (.t 7) .skip
 (.exit 0)))
 (.blk 1 (.dreg [
 iO 8 (.ld (.t 3) (some 4) false (some 3)),
 iC 9 0,
 iO 10 (.call n_billingref24_Reader_negated [((.t 9), false)] true),
 iO 11 (.call n_billingref24_two [((.c (.int .i64 5)), false), ((.t 8), false), ((.t 10), false)] false),
 iN (.st (.t 3) (.t 11) 4 false (some 3))])))
def billingref24_Reader_both_l1 : AC := .pre mk_43 billingref24_Reader_both_l1b
@[go_sem] theorem billingref24_Reader_both_l1_go : LoopRule billingref24_Reader_both_l1 billingref24_Reader_both_l1b mk_43 := loopRule
@[go_sem] theorem billingref24_Reader_both_l1_lp : LpRule billingref24_Reader_both_l1 billingref24_Reader_both_l1b mk_43 := lpRule
def billingref24_Reader_both_k1b : AC := (.seq (.reg [
 iO 12 (.ld (.t 3) (some 4) false (some 3)),
 iN (.st (.t 2) (.t 12) 4 false (some 2))])
 .ret)
def billingref24_Reader_both_k1 : AC := .pre mk_42 billingref24_Reader_both_k1b
def a_billingref24_Reader_both : AF := ⟨13, (.seq (.reg [
 iO 2 (.newbox [(.int .i64 0), (.int .i64 0), (.str []), (.sl false 4 [])])])
 (.seq (.reg [
 iM 4 0,
 iO 5 (.call n_billingref24_Reader_negated [((.t 4), false)] true),
 iO 3 (.newbox [(.int .i64 0), (.int .i64 0), (.str []), (.sl false 4 [])]),
 iN (.st (.t 3) (.t 5) 4 false (some 3))])
 (.seq (.blk 0 (.pre mk_41 (.loop billingref24_Reader_both_l1)))
 billingref24_Reader_both_k1))), [.cell 2 (some 4)]⟩
def a_billingref24_two : AF := ⟨12, (.seq (.reg [
 iO 4 (.boxr (.t 1)),
 iO 5 (.boxr (.t 2)),
 iO 6 (.newbox [(.int .i64 0), (.int .i64 0), (.str []), (.sl false 4 [])])])
 (.seq (.reg [
 iM 7 0,
 iO 8 (.ld (.t 4) (some 4) false none),
 iO 9 (.ld (.t 5) (some 4) false none),
 iO 10 (.bsl 4 2 (.agg [(.int .i64 0), (.int .i64 0), (.str []), (.sl false 4 [])]) [(0, (.t 8)), (1, (.t 9))]),
 iS 10,
 iO 11 (.build [(.int .i64 0), (.int .i64 0), (.str []), (.sl false 4 [])] [(0, 1, (.t 7)), (3, 1, (.t 10))]),
 iN (.st (.t 6) (.t 11) 4 false (some 6))])
 .ret)), [.cell 6 (some 4)]⟩
def a_parser_reader_compared : AF := ⟨43, (.seq (.reg [
 iO 2 (.newbox [(.int .i64 0), (.int .i64 0), (.str []), (.sl false 4 [])])])
 (.seq (.reg [
 iM 7 0,
 iO 8 (.call n_parser_reader_sum [((.t 7), false)] true),
 iO 3 (.newbox [(.int .i64 0), (.int .i64 0), (.str []), (.sl false 4 [])]),
 iN (.st (.t 3) (.t 8) 4 false (some 3))])
 (.seq (.seq (.reg [
 iM 9 0,
 iO 10 (.call n_parser_reader_peek [((.t 9), false)] true),
 iO 11 (.fld (.t 10) 0 1 false),
 iI 12 .neq 11 4])
 (.cond (.t 12) (.seq (.reg [
 iO 13 (.ld (.t 3) (some 4) false (some 3)),
 iN (.st (.t 2) (.t 13) 4 false (some 2))])
 .ret)
 .skip))
 (.seq (.reg [
 iK 4 (.int .i64 0),
 iK 5 (.bool false)])
 (.seq (.seq (.reg [
 iM 14 0,
 iO 15 (.call n_parser_reader_peek [((.t 14), false)] true),
 iO 16 (.fld (.t 15) 3 1 false)])
 (.blk 0 (.seq (.reg [
 iO 19 (.bin .eql (.t 16) (.c (.str [61]))),
 iM 18 19])
 (.cond (.t 18) (.reg [
 iK 4 (.int .i64 7)])
 (.seq (.reg [
 iO 21 (.bin .eql (.t 16) (.c (.str [60, 62]))),
 iM 20 21])
 (.cond (.t 20) (.reg [
 iK 4 (.int .i64 8)])
 (.seq (.reg [
 iO 23 (.bin .eql (.t 16) (.c (.str [60]))),
 iM 22 23])
 (.cond (.t 22) (.reg [
 iK 4 (.int .i64 9)])
 (.seq (.reg [
 iO 25 (.bin .eql (.t 16) (.c (.str [60, 61]))),
 iM 24 25])
 (.cond (.t 24) (.reg [
 iK 4 (.int .i64 10)])
 (.seq (.reg [
 iO 27 (.bin .eql (.t 16) (.c (.str [62]))),
 iM 26 27])
 (.cond (.t 26) (.reg [
 iK 4 (.int .i64 9),
 iK 5 (.bool true)])
 (.seq (.reg [
 iO 29 (.bin .eql (.t 16) (.c (.str [62, 61]))),
 iM 28 29])
 (.cond (.t 28) (.reg [
 iK 4 (.int .i64 10),
 iK 5 (.bool true)])
 (.seq (.reg [
 iO 17 (.ld (.t 3) (some 4) false (some 3)),
 iN (.st (.t 2) (.t 17) 4 false (some 2))])
 .ret)))))))))))))))
 (.seq (.reg [
 iM 30 0,
 iO 31 (.call n_parser_reader_skip [((.t 30), false)] true)])
 (.seq (.reg [
 iM 32 0,
 iO 33 (.call n_parser_reader_sum [((.t 32), false)] true),
 iO 6 (.newbox [(.int .i64 0), (.int .i64 0), (.str []), (.sl false 4 [])]),
 iN (.st (.t 6) (.t 33) 4 false (some 6))])
 (.seq (.seq (.reg [
 iM 34 5])
 (.cond (.t 34) (.seq (.reg [
 iM 35 4,
 iO 36 (.ld (.t 6) (some 4) false (some 6)),
 iO 37 (.ld (.t 3) (some 4) false (some 3)),
 iO 38 (.call n_parser_two [((.t 35), false), ((.t 36), false), ((.t 37), false)] false),
 iN (.st (.t 2) (.t 38) 4 false (some 2))])
 .ret)
 .skip))
 (.seq (.reg [
 iM 39 4,
 iO 40 (.ld (.t 3) (some 4) false (some 3)),
 iO 41 (.ld (.t 6) (some 4) false (some 6)),
 iO 42 (.call n_parser_two [((.t 39), false), ((.t 40), false), ((.t 41), false)] false),
 iN (.st (.t 2) (.t 42) 4 false (some 2))])
 .ret))))))))), [.cell 2 (some 4)]⟩
def a_calendar_leap : AF := ⟨16, (.seq (.reg [
 iK 2 (.bool false)])
 (.seq (.reg [
 iM 3 0,
 iI 4 .rem 3 4,
 iI 5 .eql 4 0,
 iM 6 5,
 iG 7 (.mv (.t 0)) 6 true,
 iG 8 (.bin .rem (.t 7) (.c (.int .i64 100))) 6 true,
 iG 9 (.bin .neq (.t 8) (.c (.int .i64 0))) 6 true,
 iO 10 (.pick (.t 6) (.t 9) (.c (.bool false))),
 iM 11 10,
 iG 12 (.mv (.t 0)) 11 false,
 iG 13 (.bin .rem (.t 12) (.c (.int .i64 400))) 11 false,
 iG 14 (.bin .eql (.t 13) (.c (.int .i64 0))) 11 false,
 iO 15 (.pick (.t 11) (.c (.bool true)) (.t 14)),
 iM 2 15])
 .ret)), [.tmp 2]⟩
@[go_sem] def mk_104 : List Bool := [K1,K0,K1,K1,K1,K1,K1,K1,K1,K1,K1,K1,K1,K1,K1]
def parser_weekday_l1b : AC := (.seq (.reg [
 iI 7 .lss 6 8])
 (.seq (.cond (.t 7) .skip
 (.exit 0))
 (.seq (.blk 1 (.seq (.reg [
 iM 8 6,
 iO 9 (.idx (.t 5) (.t 6) (some 8) 1 false),
 iM 3 8,
 iM 4 9])
 (.seq (.reg [
 iM 10 0,
 iM 11 4,
 iB 12 .eql 10 11])
 (.cond (.t 12) (.seq (.reg [
 iM 13 3,
 iM 2 13])
 .ret)
 .skip))))
 (.reg [
 iI 14 .add 6 1,
 iM 6 14]))))
@[go_sem] def mk_105 : List Bool := [K0,K0,K1,K1,K1,K0,K0,K1,K1,K1,K1,K1,K1,K1,K1]
def parser_weekday_l1 : AC := .pre mk_105 parser_weekday_l1b
@[go_sem] theorem parser_weekday_l1_go : LoopRule parser_weekday_l1 parser_weekday_l1b mk_105 := loopRule
@[go_sem] theorem parser_weekday_l1_lp : LpRule parser_weekday_l1 parser_weekday_l1b mk_105 := lpRule
def parser_weekday_k1b : AC := (.seq (.reg [
 iK 2 (.int .i64 (-1))])
 .ret)
def parser_weekday_k1 : AC := .pre mk_104 parser_weekday_k1b
def a_parser_weekday : AF := ⟨15, (.seq (.reg [
 iK 2 (.int .i64 0)])
 (.seq (.seq (.reg [
 iO 5 (.build [(.str []), (.str []), (.str []), (.str []), (.str []), (.str []), (.str []), (.str [])] [(0, 1, (.c (.str [109, 111, 110]))), (1, 1, (.c (.str [116, 117, 101]))), (2, 1, (.c (.str [119, 101, 100]))), (3, 1, (.c (.str [116, 104, 117]))), (4, 1, (.c (.str [102, 114, 105]))), (5, 1, (.c (.str [115, 97, 116]))), (6, 1, (.c (.str [115, 117, 110]))), (7, 1, (.c (.str [104, 111, 108, 105, 100, 97, 121])))]),
 iK 6 (.int .i64 0)])
 (.blk 0 (.loop parser_weekday_l1)))
 parser_weekday_k1)), [.tmp 2]⟩
@[go_sem] def mk_106 : List Bool := [K1,K1,K0,K0,K1,K1,K1,K1,K1,K1,K1,K1,K1,K1,K1,K1,K1,K1]
def billingref23_Has_l1b : AC := (.seq (.seq (.reg [
 iM 6 5,
 iC 7 0,
 iO 8 (.len false (.t 7) (some 0)),
 iB 9 .lss 6 8])
 (.cond (.t 9) .skip
 (.exit 0)))
 (.seq (.blk 1 (.seq (.reg [
 iC 12 0,
 iM 13 5,
 iO 14 (.ia (.t 12) (.t 13) 1 none (some 0)),
 iL 15 14,
 iM 16 1,
 iB 17 .eql 15 16])
 (.cond (.t 17) (.seq (.reg [
 iK 4 (.bool true)])
 .ret)
 .skip)))
 (.reg [
 iM 10 5,
 iI 11 .add 10 1,
 iM 5 11])))
@[go_sem] def mk_107 : List Bool := [K0,K0,K0,K0,K1,K0,K1,K1,K1,K1,K1,K1,K1,K1,K1,K1,K1,K1]
def billingref23_Has_l1 : AC := .pre mk_107 billingref23_Has_l1b
@[go_sem] theorem billingref23_Has_l1_go : LoopRule billingref23_Has_l1 billingref23_Has_l1b mk_107 := loopRule
@[go_sem] theorem billingref23_Has_l1_lp : LpRule billingref23_Has_l1 billingref23_Has_l1b mk_107 := lpRule
def billingref23_Has_k1b : AC := (.seq (.reg [
 iK 4 (.bool false)])
 .ret)
def billingref23_Has_k1 : AC := .pre mk_106 billingref23_Has_k1b
def a_billingref23_Has : AF := ⟨18, (.seq (.reg [
 iK 4 (.bool false)])
 (.seq (.seq (.reg [
 iK 5 (.int .i64 0)])
 (.blk 0 (.loop billingref23_Has_l1)))
 billingref23_Has_k1)), [.tmp 4]⟩
def a_billingref24_Reader_negated : AF := ⟨11, (.seq (.reg [
 iO 2 (.newbox [(.int .i64 0), (.int .i64 0), (.str []), (.sl false 4 [])])])
 (.seq (.seq (.reg [
 iM 3 0,
 iO 4 (.call n_billingref24_Reader_accept [((.t 3), false), ((.c (.str [110, 111, 116])), false)] true)])
 (.cond (.t 4) (.seq (.reg [
 iM 5 0,
 iO 6 (.call n_billingref24_Reader_negated [((.t 5), false)] true),
 iO 7 (.bsl 4 1 (.agg [(.int .i64 0), (.int .i64 0), (.str []), (.sl false 4 [])]) [(0, (.t 6))]),
 iS 7,
 iO 8 (.build [(.int .i64 0), (.int .i64 0), (.str []), (.sl false 4 [])] [(0, 1, (.c (.int .i64 4))), (3, 1, (.t 7))]),
 iN (.st (.t 2) (.t 8) 4 false (some 2))])
 .ret)
 .skip))
 (.seq (.reg [
 iM 9 0,
 iO 10 (.call n_billingref24_Reader_compared [((.t 9), false)] true),
 iN (.st (.t 2) (.t 10) 4 false (some 2))])
 .ret))), [.cell 2 (some 4)]⟩
def parser_reader_sum_l1b : AC := (.blk 1 (.blk 2 (.seq (.reg [
 iM 8 0,
 iO 9 (.call n_parser_reader_takeSymbol [((.t 8), false), ((.c (.str [43])), false)] true),
 iM 7 9])
 (.cond (.t 7) (.preg [
 iO 10 (.ld (.t 3) (some 4) false (some 3)),
 iC 11 0,
 iO 12 (.call n_parser_reader_product [((.t 11), false)] true),
 iO 13 (.call n_parser_two [((.c (.int .i64 11)), false), ((.t 10), false), ((.t 12), false)] false),
 iN (.st (.t 3) (.t 13) 4 false (some 3))])
 (.seq (.reg [
 iM 15 0,
 iO 16 (.call n_parser_reader_takeSymbol [((.t 15), false), ((.c (.str [45])), false)] true),
 iM 14 16])
 (.cond (.t 14) (.preg [
 iO 17 (.ld (.t 3) (some 4) false (some 3)),
 iC 18 0,
 iO 19 (.call n_parser_reader_product [((.t 18), false)] true),
 iO 20 (.call n_parser_two [((.c (.int .i64 12)), false), ((.t 17), false), ((.t 19), false)] false),
 iN (.st (.t 3) (.t 20) 4 false (some 3))])
 (.seq (.reg [
 iO 6 (.ld (.t 3) (some 4) false (some 3)),
 iN (.st (.t 2) (.t 6) 4 false (some 2))])
 .ret)))))))
@[go_sem] def mk_108 : List Bool := [K0,K0,K0,K0,K0,K0,K1,K1,K1,K1,K1,K1,K1,K1,K1,K1,K1,K1,K1,K1,K1]
def parser_reader_sum_l1 : AC := .pre mk_108 parser_reader_sum_l1b
@[go_sem] theorem parser_reader_sum_l1_go : LoopRule parser_reader_sum_l1 parser_reader_sum_l1b mk_108 := loopRule
@[go_sem] theorem parser_reader_sum_l1_lp : LpRule parser_reader_sum_l1 parser_reader_sum_l1b mk_108 := lpRule
def a_parser_reader_sum : AF := ⟨21, (.seq (.reg [
 iO 2 (.newbox [(.int .i64 0), (.int .i64 0), (.str []), (.sl false 4 [])])])
 (.seq (.reg [
 iM 4 0,
 iO 5 (.call n_parser_reader_product [((.t 4), false)] true),
 iO 3 (.newbox [(.int .i64 0), (.int .i64 0), (.str []), (.sl false 4 [])]),
 iN (.st (.t 3) (.t 5) 4 false (some 3))])
 (.blk 0 (.pre mk_41 (.loop parser_reader_sum_l1))))), [.cell 2 (some 4)]⟩
def a_billingref24_Reader_compared : AF := ⟨43, (.seq (.reg [
 iO 2 (.newbox [(.int .i64 0), (.int .i64 0), (.str []), (.sl false 4 [])])])
 (.seq (.reg [
 iM 4 0,
 iO 5 (.call n_billingref24_Reader_sum [((.t 4), false)] true),
 iO 3 (.newbox [(.int .i64 0), (.int .i64 0), (.str []), (.sl false 4 [])]),
 iN (.st (.t 3) (.t 5) 4 false (some 3))])
 (.seq (.seq (.reg [
 iM 6 0,
 iO 7 (.call n_billingref24_Reader_accept [((.t 6), false), ((.c (.str [61])), false)] true)])
 (.cond (.t 7) (.seq (.dreg [
 iO 8 (.ld (.t 3) (some 4) false (some 3)),
 iC 9 0,
 iO 10 (.call n_billingref24_Reader_sum [((.t 9), false)] true),
 iO 11 (.call n_billingref24_two [((.c (.int .i64 7)), false), ((.t 8), false), ((.t 10), false)] false),
 iN (.st (.t 2) (.t 11) 4 false (some 2))])
 .ret)
 .skip))
 (.seq (.seq (.reg [
 iM 12 0,
 iO 13 (.call n_billingref24_Reader_accept [((.t 12), false), ((.c (.str [60, 62])), false)] true)])
 (.cond (.t 13) (.seq (.dreg [
 iO 14 (.ld (.t 3) (some 4) false (some 3)),
 iC 15 0,
 iO 16 (.call n_billingref24_Reader_sum [((.t 15), false)] true),
 iO 17 (.call n_billingref24_two [((.c (.int .i64 8)), false), ((.t 14), false), ((.t 16), false)] false),
 iN (.st (.t 2) (.t 17) 4 false (some 2))])
 .ret)
 .skip))
 (.seq (.seq (.reg [
 iM 18 0,
 iO 19 (.call n_billingref24_Reader_accept [((.t 18), false), ((.c (.str [60])), false)] true)])
 (.cond (.t 19) (.seq (.dreg [
 iO 20 (.ld (.t 3) (some 4) false (some 3)),
 iC 21 0,
 iO 22 (.call n_billingref24_Reader_sum [((.t 21), false)] true),
 iO 23 (.call n_billingref24_two [((.c (.int .i64 9)), false), ((.t 20), false), ((.t 22), false)] false),
 iN (.st (.t 2) (.t 23) 4 false (some 2))])
 .ret)
 .skip))
 (.seq (.seq (.reg [
 iM 24 0,
 iO 25 (.call n_billingref24_Reader_accept [((.t 24), false), ((.c (.str [60, 61])), false)] true)])
 (.cond (.t 25) (.seq (.dreg [
 iO 26 (.ld (.t 3) (some 4) false (some 3)),
 iC 27 0,
 iO 28 (.call n_billingref24_Reader_sum [((.t 27), false)] true),
 iO 29 (.call n_billingref24_two [((.c (.int .i64 10)), false), ((.t 26), false), ((.t 28), false)] false),
 iN (.st (.t 2) (.t 29) 4 false (some 2))])
 .ret)
 .skip))
 (.seq (.seq (.reg [
 iM 30 0,
 iO 31 (.call n_billingref24_Reader_accept [((.t 30), false), ((.c (.str [62])), false)] true)])
 (.cond (.t 31) (.seq (.dreg [
 iC 32 0,
 iO 33 (.call n_billingref24_Reader_sum [((.t 32), false)] true),
 iO 34 (.ld (.t 3) (some 4) false (some 3)),
 iO 35 (.call n_billingref24_two [((.c (.int .i64 9)), false), ((.t 33), false), ((.t 34), false)] false),
 iN (.st (.t 2) (.t 35) 4 false (some 2))])
 .ret)
 .skip))
 (.seq (.seq (.reg [
 iM 36 0,
 iO 37 (.call n_billingref24_Reader_accept [((.t 36), false), ((.c (.str [62, 61])), false)] true)])
 (.cond (.t 37) (.seq (.dreg [
 iC 38 0,
 iO 39 (.call n_billingref24_Reader_sum [((.t 38), false)] true),
 iO 40 (.ld (.t 3) (some 4) false (some 3)),
 iO 41 (.call n_billingref24_two [((.c (.int .i64 10)), false), ((.t 39), false), ((.t 40), false)] false),
 iN (.st (.t 2) (.t 41) 4 false (some 2))])
 .ret)
 .skip))
 (.seq (.reg [
 iO 42 (.ld (.t 3) (some 4) false (some 3)),
 iN (.st (.t 2) (.t 42) 4 false (some 2))])
 .ret))))))))), [.cell 2 (some 4)]⟩
def parser_reader_product_l1b : AC := (.blk 1 (.blk 2 (.seq (.reg [
 iM 8 0,
 iO 9 (.call n_parser_reader_takeSymbol [((.t 8), false), ((.c (.str [42])), false)] true),
 iM 7 9])
 (.cond (.t 7) (.preg [
 iO 10 (.ld (.t 3) (some 4) false (some 3)),
 iC 11 0,
 iO 12 (.call n_parser_reader_primary [((.t 11), false)] true),
 iO 13 (.call n_parser_two [((.c (.int .i64 13)), false), ((.t 10), false), ((.t 12), false)] false),
 iN (.st (.t 3) (.t 13) 4 false (some 3))])
 (.seq (.reg [
 iM 15 0,
 iO 16 (.call n_parser_reader_takeSymbol [((.t 15), false), ((.c (.str [47])), false)] true),
 iM 14 16])
 (.cond (.t 14) (.preg [
 iO 17 (.ld (.t 3) (some 4) false (some 3)),
 iC 18 0,
 iO 19 (.call n_parser_reader_primary [((.t 18), false)] true),
 iO 20 (.call n_parser_two [((.c (.int .i64 14)), false), ((.t 17), false), ((.t 19), false)] false),
 iN (.st (.t 3) (.t 20) 4 false (some 3))])
 (.seq (.reg [
 iM 22 0,
 iO 23 (.call n_parser_reader_takeSymbol [((.t 22), false), ((.c (.str [37])), false)] true),
 iM 21 23])
 (.cond (.t 21) (.preg [
 iO 24 (.ld (.t 3) (some 4) false (some 3)),
 iC 25 0,
 iO 26 (.call n_parser_reader_primary [((.t 25), false)] true),
 iO 27 (.call n_parser_two [((.c (.int .i64 15)), false), ((.t 24), false), ((.t 26), false)] false),
 iN (.st (.t 3) (.t 27) 4 false (some 3))])
 (.seq (.reg [
 iO 6 (.ld (.t 3) (some 4) false (some 3)),
 iN (.st (.t 2) (.t 6) 4 false (some 2))])
 .ret)))))))))
@[go_sem] def mk_109 : List Bool := [K0,K0,K0,K0,K0,K0,K1,K1,K1,K1,K1,K1,K1,K1,K1,K1,K1,K1,K1,K1,K1,K1,K1,K1,K1,K1,K1,K1]
def parser_reader_product_l1 : AC := .pre mk_109 parser_reader_product_l1b
@[go_sem] theorem parser_reader_product_l1_go : LoopRule parser_reader_product_l1 parser_reader_product_l1b mk_109 := loopRule
@[go_sem] theorem parser_reader_product_l1_lp : LpRule parser_reader_product_l1 parser_reader_product_l1b mk_109 := lpRule
def a_parser_reader_product : AF := ⟨28, (.seq (.reg [
 iO 2 (.newbox [(.int .i64 0), (.int .i64 0), (.str []), (.sl false 4 [])])])
 (.seq (.reg [
 iM 4 0,
 iO 5 (.call n_parser_reader_primary [((.t 4), false)] true),
 iO 3 (.newbox [(.int .i64 0), (.int .i64 0), (.str []), (.sl false 4 [])]),
 iN (.st (.t 3) (.t 5) 4 false (some 3))])
 (.blk 0 (.pre mk_41 (.loop parser_reader_product_l1))))), [.cell 2 (some 4)]⟩
def billingref24_Reader_sum_l1b : AC := (.blk 1 (.seq (.reg [
 iM 6 0,
 iO 7 (.call n_billingref24_Reader_accept [((.t 6), false), ((.c (.str [43])), false)] true)])
 (.cond (.t 7) (.dreg [
 iO 8 (.ld (.t 3) (some 4) false (some 3)),
 iC 9 0,
 iO 10 (.call n_billingref24_Reader_product [((.t 9), false)] true),
 iO 11 (.call n_billingref24_two [((.c (.int .i64 11)), false), ((.t 8), false), ((.t 10), false)] false),
 iN (.st (.t 3) (.t 11) 4 false (some 3))])
 (.seq (.reg [
 iM 12 0,
 iO 13 (.call n_billingref24_Reader_accept [((.t 12), false), ((.c (.str [45])), false)] true)])
 (.cond (.t 13) (.dreg [
 iO 14 (.ld (.t 3) (some 4) false (some 3)),
 iC 15 0,
 iO 16 (.call n_billingref24_Reader_product [((.t 15), false)] true),
 iO 17 (.call n_billingref24_two [((.c (.int .i64 12)), false), ((.t 14), false), ((.t 16), false)] false),
 iN (.st (.t 3) (.t 17) 4 false (some 3))])
 (.seq (.reg [
 iO 18 (.ld (.t 3) (some 4) false (some 3)),
 iN (.st (.t 2) (.t 18) 4 false (some 2))])
 .ret))))))
@[go_sem] def mk_110 : List Bool := [K0,K0,K0,K0,K0,K0,K1,K1,K1,K1,K1,K1,K1,K1,K1,K1,K1,K1,K1]
def billingref24_Reader_sum_l1 : AC := .pre mk_110 billingref24_Reader_sum_l1b
@[go_sem] theorem billingref24_Reader_sum_l1_go : LoopRule billingref24_Reader_sum_l1 billingref24_Reader_sum_l1b mk_110 := loopRule
@[go_sem] theorem billingref24_Reader_sum_l1_lp : LpRule billingref24_Reader_sum_l1 billingref24_Reader_sum_l1b mk_110 := lpRule
def a_billingref24_Reader_sum : AF := ⟨19, (.seq (.reg [
 iO 2 (.newbox [(.int .i64 0), (.int .i64 0), (.str []), (.sl false 4 [])])])
 (.seq (.reg [
 iM 4 0,
 iO 5 (.call n_billingref24_Reader_product [((.t 4), false)] true),
 iO 3 (.newbox [(.int .i64 0), (.int .i64 0), (.str []), (.sl false 4 [])]),
 iN (.st (.t 3) (.t 5) 4 false (some 3))])
 (.blk 0 (.pre mk_41 (.loop billingref24_Reader_sum_l1))))), [.cell 2 (some 4)]⟩
def a_parser_reader_primary : AF := ⟨49, (.seq (.reg [
 iO 2 (.newbox [(.int .i64 0), (.int .i64 0), (.str []), (.sl false 4 [])])])
 (.seq (.reg [
 iM 5 0,
 iO 6 (.call n_parser_reader_peek [((.t 5), false)] true),
 iO 3 (.newbox [(.int .i64 0), (.int .i64 0), (.int .i64 0), (.str [])]),
 iN (.st (.t 3) (.t 6) 4 false (some 3))])
 (.seq (.blk 0 (.seq (.reg [
 iO 8 (.fa (.t 3) 0 (some 3)),
 iO 9 (.ld (.t 8) none false (some 3)),
 iI 10 .eql 9 2,
 iM 7 10])
 (.cond (.t 7) (.seq (.reg [
 iM 11 0,
 iO 12 (.call n_parser_reader_number [((.t 11), false)] true),
 iO 13 (.build [(.int .i64 0), (.int .i64 0), (.str []), (.sl false 4 [])] [(0, 1, (.c (.int .i64 1))), (1, 1, (.t 12))]),
 iN (.st (.t 2) (.t 13) 4 false (some 2))])
 .ret)
 (.seq (.reg [
 iO 15 (.fa (.t 3) 0 (some 3)),
 iO 16 (.ld (.t 15) none false (some 3)),
 iI 17 .eql 16 3,
 iM 14 17])
 (.cond (.t 14) (.seq (.reg [
 iM 18 0,
 iO 19 (.call n_parser_reader_skip [((.t 18), false)] true),
 iO 20 (.fld (.t 19) 3 1 false),
 iO 21 (.build [(.int .i64 0), (.int .i64 0), (.str []), (.sl false 4 [])] [(0, 1, (.c (.int .i64 2))), (2, 1, (.t 20))]),
 iN (.st (.t 2) (.t 21) 4 false (some 2))])
 .ret)
 (.seq (.reg [
 iO 23 (.fa (.t 3) 0 (some 3)),
 iO 24 (.ld (.t 23) none false (some 3)),
 iI 25 .eql 24 1,
 iM 26 25,
 iG 27 (.fa (.t 3) 3 (some 3)) 26 true,
 iG 28 (.ld (.t 27) none false (some 3)) 26 true,
 iG 29 (.call n_parser_attribute [((.t 28), false)] false) 26 true,
 iO 30 (.pick (.t 26) (.t 29) (.c (.bool false))),
 iM 22 30])
 (.cond (.t 22) (.seq (.reg [
 iM 31 0,
 iO 32 (.call n_parser_reader_skip [((.t 31), false)] true),
 iO 33 (.fld (.t 32) 3 1 false),
 iO 34 (.build [(.int .i64 0), (.int .i64 0), (.str []), (.sl false 4 [])] [(0, 1, (.c (.int .i64 3))), (2, 1, (.t 33))]),
 iN (.st (.t 2) (.t 34) 4 false (some 2))])
 .ret)
 (.seq (.reg [
 iO 36 (.fa (.t 3) 0 (some 3)),
 iO 37 (.ld (.t 36) none false (some 3)),
 iI 38 .eql 37 1,
 iM 35 38])
 (.cond (.t 35) (.seq (.reg [
 iM 39 0,
 iO 40 (.call n_parser_reader_name [((.t 39), false)] true),
 iO 41 (.build [(.int .i64 0), (.int .i64 0), (.str []), (.sl false 4 [])] [(0, 1, (.c (.int .i64 3))), (2, 1, (.t 40))]),
 iN (.st (.t 2) (.t 41) 4 false (some 2))])
 .ret)
 .skip)))))))))
 (.seq (.reg [
 iM 42 0,
 iO 43 (.call n_parser_reader_needSymbol [((.t 42), false), ((.c (.str [40])), false)] true)])
 (.seq (.reg [
 iM 44 0,
 iO 45 (.call n_parser_reader_either [((.t 44), false)] true),
 iO 4 (.newbox [(.int .i64 0), (.int .i64 0), (.str []), (.sl false 4 [])]),
 iN (.st (.t 4) (.t 45) 4 false (some 4))])
 (.seq (.reg [
 iM 46 0,
 iO 47 (.call n_parser_reader_needSymbol [((.t 46), false), ((.c (.str [41])), false)] true)])
 (.seq (.reg [
 iO 48 (.ld (.t 4) (some 4) false (some 4)),
 iN (.st (.t 2) (.t 48) 4 false (some 2))])
 .ret))))))), [.cell 2 (some 4)]⟩
def billingref24_Reader_product_l1b : AC := (.blk 1 (.seq (.reg [
 iM 6 0,
 iO 7 (.call n_billingref24_Reader_accept [((.t 6), false), ((.c (.str [42])), false)] true)])
 (.cond (.t 7) (.dreg [
 iO 8 (.ld (.t 3) (some 4) false (some 3)),
 iC 9 0,
 iO 10 (.call n_billingref24_Reader_primary [((.t 9), false)] true),
 iO 11 (.call n_billingref24_two [((.c (.int .i64 13)), false), ((.t 8), false), ((.t 10), false)] false),
 iN (.st (.t 3) (.t 11) 4 false (some 3))])
 (.seq (.reg [
 iM 12 0,
 iO 13 (.call n_billingref24_Reader_accept [((.t 12), false), ((.c (.str [47])), false)] true)])
 (.cond (.t 13) (.dreg [
 iO 14 (.ld (.t 3) (some 4) false (some 3)),
 iC 15 0,
 iO 16 (.call n_billingref24_Reader_primary [((.t 15), false)] true),
 iO 17 (.call n_billingref24_two [((.c (.int .i64 14)), false), ((.t 14), false), ((.t 16), false)] false),
 iN (.st (.t 3) (.t 17) 4 false (some 3))])
 (.seq (.reg [
 iM 18 0,
 iO 19 (.call n_billingref24_Reader_accept [((.t 18), false), ((.c (.str [37])), false)] true)])
 (.cond (.t 19) (.dreg [
 iO 20 (.ld (.t 3) (some 4) false (some 3)),
 iC 21 0,
 iO 22 (.call n_billingref24_Reader_primary [((.t 21), false)] true),
 iO 23 (.call n_billingref24_two [((.c (.int .i64 15)), false), ((.t 20), false), ((.t 22), false)] false),
 iN (.st (.t 3) (.t 23) 4 false (some 3))])
 (.seq (.reg [
 iO 24 (.ld (.t 3) (some 4) false (some 3)),
 iN (.st (.t 2) (.t 24) 4 false (some 2))])
 .ret))))))))
@[go_sem] def mk_111 : List Bool := [K0,K0,K0,K0,K0,K0,K1,K1,K1,K1,K1,K1,K1,K1,K1,K1,K1,K1,K1,K1,K1,K1,K1,K1,K1]
def billingref24_Reader_product_l1 : AC := .pre mk_111 billingref24_Reader_product_l1b
@[go_sem] theorem billingref24_Reader_product_l1_go : LoopRule billingref24_Reader_product_l1 billingref24_Reader_product_l1b mk_111 := loopRule
@[go_sem] theorem billingref24_Reader_product_l1_lp : LpRule billingref24_Reader_product_l1 billingref24_Reader_product_l1b mk_111 := lpRule
def a_billingref24_Reader_product : AF := ⟨25, (.seq (.reg [
 iO 2 (.newbox [(.int .i64 0), (.int .i64 0), (.str []), (.sl false 4 [])])])
 (.seq (.reg [
 iM 4 0,
 iO 5 (.call n_billingref24_Reader_primary [((.t 4), false)] true),
 iO 3 (.newbox [(.int .i64 0), (.int .i64 0), (.str []), (.sl false 4 [])]),
 iN (.st (.t 3) (.t 5) 4 false (some 3))])
 (.blk 0 (.pre mk_41 (.loop billingref24_Reader_product_l1))))), [.cell 2 (some 4)]⟩
def a_parser_attribute : AF := ⟨14, (.seq (.reg [
 iK 2 (.bool false)])
 (.seq (.seq (.reg [
 iM 3 0])
 (.blk 0 (.seq (.seq (.reg [
 iO 5 (.bin .eql (.t 3) (.c (.str [107, 105, 110, 100]))),
 iM 4 5])
 (.cond (.t 4) .skip
 (.seq (.reg [
 iO 6 (.bin .eql (.t 3) (.c (.str [117, 110, 105, 116, 115]))),
 iM 4 6])
 (.cond (.t 4) .skip
 (.seq (.reg [
 iO 7 (.bin .eql (.t 3) (.c (.str [119, 101, 101, 107, 100, 97, 121]))),
 iM 4 7])
 (.cond (.t 4) .skip
 (.seq (.reg [
 iO 8 (.bin .eql (.t 3) (.c (.str [109, 105, 110, 117, 116, 101]))),
 iM 4 8])
 (.cond (.t 4) .skip
 (.seq (.reg [
 iO 9 (.bin .eql (.t 3) (.c (.str [116, 111, 116, 97, 108]))),
 iM 4 9])
 (.cond (.t 4) .skip
 (.seq (.reg [
 iO 10 (.bin .eql (.t 3) (.c (.str [115, 112, 101, 110, 116]))),
 iM 4 10])
 (.cond (.t 4) .skip
 (.seq (.reg [
 iO 11 (.bin .eql (.t 3) (.c (.str [122, 111, 110, 101]))),
 iM 4 11])
 (.cond (.t 4) .skip
 (.seq (.reg [
 iO 12 (.bin .eql (.t 3) (.c (.str [98, 97, 110, 100]))),
 iM 4 12])
 (.cond (.t 4) .skip
 (.reg [
 iO 13 (.bin .eql (.t 3) (.c (.str [102, 97, 109, 105, 108, 121]))),
 iM 4 13])))))))))))))))))
 (.cond (.t 4) (.seq (.reg [
 iK 2 (.bool true)])
 .ret)
 .skip))))
 (.seq (.reg [
 iK 2 (.bool false)])
 .ret))), [.tmp 2]⟩
def a_billingref24_Reader_primary : AF := ⟨53, (.seq (.reg [
 iO 2 (.newbox [(.int .i64 0), (.int .i64 0), (.str []), (.sl false 4 [])])])
 (.seq (.reg [
 iM 5 0,
 iO 6 (.call n_billingref24_Reader_now [((.t 5), false)] true),
 iO 3 (.newbox [(.int .i64 0), (.int .i64 0), (.int .i64 0), (.str [])]),
 iN (.st (.t 3) (.t 6) 4 false (some 3))])
 (.seq (.seq (.reg [
 iM 7 0,
 iO 8 (.nck (.t 7) none),
 iF 9 8 2,
 iL 10 9,
 iI 11 .neq 10 0])
 (.cond (.t 11) (.seq (.reg [
 iO 12 (.build [(.int .i64 0), (.int .i64 0), (.str []), (.sl false 4 [])] []),
 iN (.st (.t 2) (.t 12) 4 false (some 2))])
 .ret)
 .skip))
 (.seq (.seq (.reg [
 iO 13 (.fa (.t 3) 0 (some 3)),
 iO 14 (.ld (.t 13) none false (some 3)),
 iI 15 .eql 14 2])
 (.cond (.t 15) (.seq (.reg [
 iM 16 0,
 iO 17 (.call n_billingref24_Reader_number [((.t 16), false)] true),
 iO 18 (.build [(.int .i64 0), (.int .i64 0), (.str []), (.sl false 4 [])] [(0, 1, (.c (.int .i64 1))), (1, 1, (.t 17))]),
 iN (.st (.t 2) (.t 18) 4 false (some 2))])
 .ret)
 .skip))
 (.seq (.seq (.reg [
 iO 19 (.fa (.t 3) 0 (some 3)),
 iO 20 (.ld (.t 19) none false (some 3)),
 iI 21 .eql 20 3])
 (.cond (.t 21) (.seq (.reg [
 iM 22 0,
 iO 23 (.call n_billingref24_Reader_next [((.t 22), false)] true)])
 (.seq (.reg [
 iO 24 (.fa (.t 3) 3 (some 3)),
 iO 25 (.ld (.t 24) none false (some 3)),
 iO 26 (.build [(.int .i64 0), (.int .i64 0), (.str []), (.sl false 4 [])] [(0, 1, (.c (.int .i64 2))), (2, 1, (.t 25))]),
 iN (.st (.t 2) (.t 26) 4 false (some 2))])
 .ret))
 .skip))
 (.seq (.seq (.dreg [
 iC 27 0,
 iO 28 (.callr n_billingref24_Reader_plain [((.t 27), false)]),
 iC 29 28,
 iG 30 (.fa (.t 3) 0 (some 3)) 29 false,
 iG 31 (.ld (.t 30) none false (some 3)) 29 false,
 iG 32 (.bin .eql (.t 31) (.c (.int .i64 1))) 29 false,
 iG 33 (.cp (.t 32)) 29 false,
 iG 34 (.call n_billingref24_Attributes [] false) 33 true,
 iG 35 (.fa (.t 3) 3 (some 3)) 33 true,
 iG 36 (.ld (.t 35) none false (some 3)) 33 true,
 iG 37 (.call n_billingref24_Place [((.t 34), true), ((.t 36), false)] false) 33 true,
 iG 38 (.bin .geq (.t 37) (.c (.int .i64 0))) 33 true,
 iG 39 (.pick (.t 33) (.t 38) (.c (.bool false))) 29 false,
 iO 40 (.pick (.t 29) (.c (.bool true)) (.t 39))])
 (.cond (.t 40) (.seq (.reg [
 iM 41 0,
 iO 42 (.call n_billingref24_Reader_next [((.t 41), false)] true)])
 (.seq (.reg [
 iO 43 (.fa (.t 3) 3 (some 3)),
 iO 44 (.ld (.t 43) none false (some 3)),
 iO 45 (.build [(.int .i64 0), (.int .i64 0), (.str []), (.sl false 4 [])] [(0, 1, (.c (.int .i64 3))), (2, 1, (.t 44))]),
 iN (.st (.t 2) (.t 45) 4 false (some 2))])
 .ret))
 .skip))
 (.seq (.reg [
 iM 46 0,
 iO 47 (.call n_billingref24_Reader_expect [((.t 46), false), ((.c (.str [40])), false)] true)])
 (.seq (.reg [
 iM 48 0,
 iO 49 (.call n_billingref24_Reader_expr [((.t 48), false)] true),
 iO 4 (.newbox [(.int .i64 0), (.int .i64 0), (.str []), (.sl false 4 [])]),
 iN (.st (.t 4) (.t 49) 4 false (some 4))])
 (.seq (.reg [
 iM 50 0,
 iO 51 (.call n_billingref24_Reader_expect [((.t 50), false), ((.c (.str [41])), false)] true)])
 (.seq (.reg [
 iO 52 (.ld (.t 4) (some 4) false (some 4)),
 iN (.st (.t 2) (.t 52) 4 false (some 2))])
 .ret)))))))))), [.cell 2 (some 4)]⟩
def a_billingref24_Attributes : AF := ⟨2, (.seq (.reg [
 iK 0 (.sl true 1 [])])
 (.pre mk_96 (.seq (.reg [
 iO 1 (.bsl 1 9 (.str []) [(0, (.c (.str [107, 105, 110, 100]))), (1, (.c (.str [117, 110, 105, 116, 115]))), (2, (.c (.str [119, 101, 101, 107, 100, 97, 121]))), (3, (.c (.str [109, 105, 110, 117, 116, 101]))), (4, (.c (.str [116, 111, 116, 97, 108]))), (5, (.c (.str [115, 112, 101, 110, 116]))), (6, (.c (.str [122, 111, 110, 101]))), (7, (.c (.str [98, 97, 110, 100]))), (8, (.c (.str [102, 97, 109, 105, 108, 121])))]),
 iM 0 1])
 .ret))), [.tmp 0]⟩
def d_parser_Tariff : AFD := ⟨29, [p1_parser_Tariff, p2_parser_Tariff, p3_parser_Tariff], 20, n_parser_Tariff_1, [.t 2, .t 3, .t 4], b_parser_Tariff, [.cell 2 (some 7), .cell 3 none, .cell 4 none], 15, 5, 3, g_parser_Tariff_1⟩
def d_parser_Expr : AFD := ⟨29, [p1_parser_Expr, p2_parser_Expr, p3_parser_Expr], 20, n_parser_Expr_1, [.t 2, .t 3, .t 4], b_parser_Expr, [.cell 2 (some 4), .cell 3 none, .cell 4 none], 15, 5, 3, g_parser_Expr_1⟩
def d_lexer_Scan : AFD := ⟨24, [p1_lexer_Scan, p2_lexer_Scan], 10, n_lexer_Scan_1, [.t 2, .t 3, .t 4], b_lexer_Scan, [.cell 2 none, .cell 3 none, .cell 4 none], 21, 6, 3, g_lexer_Scan_1⟩
def ft : FuncId → Option AF
 | 3 => some a_billinglaw24_ParserTariffs
 | 4 => some a_billinglaw24_awake
 | 6 => some a_billingref24_Tariff
 | 7 => some a_billingref24_SameTariff
 | 11 => some a_parser_caught
 | 12 => some a_parser_reader_tariff
 | 13 => some a_parser_reader_end
 | 14 => some a_billingref23_Scan
 | 15 => some a_billingref24_Reader_tariff
 | 16 => some a_billingref24_Reader_end
 | 17 => some a_billingref24_Reader_now
 | 18 => some a_billingref24_SameTexts
 | 19 => some a_billingref24_SameExpr
 | 20 => some a_billingref24_sameBands
 | 21 => some a_billingref24_sameRates
 | 23 => some a_parser_reader_either
 | 25 => some a_lexer_scanner_next
 | 26 => some a_parser_reader_needWord
 | 27 => some a_parser_reader_name
 | 28 => some a_parser_reader_date
 | 29 => some a_parser_reader_peek
 | 30 => some a_parser_reader_fixed
 | 31 => some a_parser_reader_needSymbol
 | 32 => some a_parser_reader_takeWord
 | 33 => some a_parser_reader_zone
 | 34 => some a_parser_reader_band
 | 35 => some a_parser_reader_rate
 | 36 => some a_parser_reader_discount
 | 37 => some a_parser_fail
 | 38 => some a_billingref23_Skip
 | 39 => some a_billingref23_token
 | 40 => some a_billingref24_Reader_expect
 | 41 => some a_billingref24_Reader_name
 | 42 => some a_billingref24_Reader_date
 | 43 => some a_billingref24_Reader_clock
 | 44 => some a_billingref24_Reader_accept
 | 45 => some a_billingref24_Reader_zone
 | 46 => some a_billingref24_Reader_band
 | 47 => some a_billingref24_Reader_rate
 | 48 => some a_billingref24_Reader_discount
 | 49 => some a_billingref24_Reader_fail
 | 50 => some a_billingref24_SameRate
 | 51 => some a_parser_reader_both
 | 52 => some a_parser_two
 | 53 => some a_lexer_scanner_blanks
 | 54 => some a_lexer_lower
 | 55 => some a_lexer_scanner_word
 | 56 => some a_lexer_digit
 | 57 => some a_lexer_scanner_number
 | 58 => some a_lexer_scanner_text
 | 59 => some a_lexer_scanner_symbol
 | 60 => some a_lexer_Keyword
 | 61 => some a_parser_reader_skip
 | 62 => some a_calendar_Day
 | 63 => some a_parser_reader_takeSymbol
 | 64 => some a_parser_reader_word
 | 65 => some a_parser_reader_digits
 | 66 => some a_parser_reader_slot
 | 67 => some a_parser_kind
 | 68 => some a_parser_reader_nameOrAny
 | 69 => some a_parser_reader_number
 | 70 => some a_parser_reader_step
 | 71 => some a_billingref23_Lower
 | 72 => some a_billingref23_word
 | 73 => some a_billingref23_Digit
 | 74 => some a_billingref23_number
 | 75 => some a_billingref23_text
 | 76 => some a_billingref23_symbol
 | 77 => some a_billingref24_Reader_plain
 | 78 => some a_billingref24_Reader_next
 | 79 => some a_billingref24_Reader_digits
 | 80 => some a_billingref24_Day
 | 81 => some a_billingref24_Reader_is
 | 82 => some a_billingref24_Reader_slot
 | 83 => some a_billingref24_Reader_word
 | 84 => some a_billingref24_Kinds
 | 85 => some a_billingref24_Reader_either
 | 86 => some a_billingref24_Reader_number
 | 87 => some a_billingref24_Reader_step
 | 88 => some a_billingref24_Reader_expr
 | 89 => some a_billingref24_SameSteps
 | 90 => some a_parser_reader_negated
 | 91 => some a_lexer_fail
 | 92 => some a_calendar_Length
 | 93 => some a_calendar_before
 | 94 => some a_calendar_days
 | 95 => some a_parser_reader_symbol
 | 96 => some a_parser_reader_day
 | 97 => some a_parser_reader_time
 | 98 => some a_billingref23_inWord
 | 99 => some a_billingref23_Value
 | 100 => some a_billingref23_inText
 | 101 => some a_billingref23_Symbols
 | 102 => some a_billingref23_Keyword
 | 103 => some a_billingref24_Length
 | 104 => some a_billingref24_Days
 | 105 => some a_billingref24_Reader_time
 | 106 => some a_billingref24_Place
 | 107 => some a_billingref24_Reader_both
 | 108 => some a_billingref24_two
 | 109 => some a_parser_reader_compared
 | 110 => some a_calendar_leap
 | 111 => some a_parser_weekday
 | 112 => some a_billingref23_Has
 | 113 => some a_billingref24_Reader_negated
 | 114 => some a_parser_reader_sum
 | 115 => some a_billingref24_Reader_compared
 | 116 => some a_parser_reader_product
 | 117 => some a_billingref24_Reader_sum
 | 118 => some a_parser_reader_primary
 | 119 => some a_billingref24_Reader_product
 | 120 => some a_parser_attribute
 | 121 => some a_billingref24_Reader_primary
 | 122 => some a_billingref24_Attributes
 | _ => none
end Go.Am
