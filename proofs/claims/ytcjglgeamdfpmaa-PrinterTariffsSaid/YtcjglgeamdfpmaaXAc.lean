/- The functions as abstract code. -/
import Derived.Test.YtcjglgeamdfpmaaXAmA
namespace Go.Am
@[go_sem] def iM (d x : Nat) : AI := ⟨some d, .mv (.t x), none⟩
@[go_sem] def iC (d x : Nat) : AI := ⟨some d, .cp (.t x), none⟩
@[go_sem] def iK (d : Nat) (v : V) : AI := ⟨some d, .mv (.c v), none⟩
@[go_sem] def iL (d x : Nat) : AI := ⟨some d, .ld (.t x) none false none, none⟩
@[go_sem] def iF (d x o : Nat) : AI := ⟨some d, .fa (.t x) o none, none⟩
@[go_sem] def iB (d : Nat) (o : BinOp) (x y : Nat) : AI := ⟨some d, .bin o (.t x) (.t y), none⟩
@[go_sem] def iI (d : Nat) (o : BinOp) (x : Nat) (n : Int) : AI := ⟨some d, .bin o (.t x) (.c (.int .i64 n)), none⟩
@[go_sem] def iO (d : Nat) (o : AOp) : AI := ⟨some d, o, none⟩
@[go_sem] def iG (d : Nat) (o : AOp) (g : Nat) (b : Bool) : AI := ⟨some d, o, some (g, b)⟩
@[go_sem] def iN (o : AOp) : AI := ⟨none, o, none⟩
@[go_sem] def iS (x : Nat) : AI := ⟨none, .cm x, none⟩
def n_billinglaw25_PrinterTariffs : FuncId := 11
def n_billinglaw25_PrinterExprs : FuncId := 12
def n_billingref25_Small : FuncId := 19
def n_billinglaw25_awake : FuncId := 20
def n_printer_Tariff : FuncId := 21
def n_printer_Expr : FuncId := 25
def n_lexer_Scan : FuncId := 27
def n_billingref23_Value : FuncId := 31
def n_lexer_Quote : FuncId := 34
def n_lexer_Keyword : FuncId := 35
def n_billingref23_Keyword : FuncId := 36
def n_billingref23_Quote : FuncId := 37
def n_billingref25_Tariff : FuncId := 38
def n_billingref25_SmallExpr : FuncId := 39
def n_billingref25_Expr : FuncId := 40
def n_printer_printable : FuncId := 48
def n_calendar_Print : FuncId := 49
def n_printer_join : FuncId := 50
def n_printer_decimal : FuncId := 51
def n_printer_list : FuncId := 52
def n_printer_slots : FuncId := 53
def n_printer_rate : FuncId := 54
def n_printer_text : FuncId := 55
def n_printer_printableExpr : FuncId := 65
def n_lexer_Scan_1 : FuncId := 66
def n_lexer_scanner_next : FuncId := 67
def n_billingref23_Has : FuncId := 69
def n_billingref23_inText : FuncId := 70
def n_billingref25_Whole : FuncId := 71
def n_billingref25_head : FuncId := 72
def n_billingref25_Joined : FuncId := 73
def n_billingref25_bandLine : FuncId := 74
def n_billingref25_rateLine : FuncId := 75
def n_billingref25_Decimal : FuncId := 76
def n_billingref25_show : FuncId := 77
def n_billingref25_Count : FuncId := 78
def n_billingref25_Printable : FuncId := 79
def n_printer_name : FuncId := 83
def n_printer_prefixes : FuncId := 84
def n_printer_printableSlots : FuncId := 85
def n_printer_printableRate : FuncId := 86
def n_printer_number : FuncId := 87
def n_calendar_Date : FuncId := 88
def n_calendar_digits : FuncId := 89
def n_printer_clock : FuncId := 90
def n_printer_kind : FuncId := 91
def n_printer_anyName : FuncId := 92
def n_printer_operand : FuncId := 93
def n_printer_strength : FuncId := 94
def n_printer_sign : FuncId := 95
def n_printer_operands : FuncId := 111
def n_printer_attribute : FuncId := 112
def n_lexer_scanner_blanks : FuncId := 113
def n_lexer_lower : FuncId := 114
def n_lexer_scanner_word : FuncId := 115
def n_lexer_digit : FuncId := 116
def n_lexer_scanner_number : FuncId := 117
def n_lexer_scanner_text : FuncId := 118
def n_lexer_scanner_symbol : FuncId := 119
def n_billingref23_Lower : FuncId := 120
def n_billingref23_Digit : FuncId := 122
def n_billingref25_zone : FuncId := 126
def n_billingref25_band : FuncId := 127
def n_billingref25_rate : FuncId := 128
def n_billingref25_discount : FuncId := 129
def n_billingref25_Name : FuncId := 130
def n_billingref25_Date : FuncId := 131
def n_billingref25_Clock : FuncId := 132
def n_billingref25_slot : FuncId := 133
def n_billingref24_Kinds : FuncId := 134
def n_billingref25_any : FuncId := 135
def n_billingref25_step : FuncId := 136
def n_billingref25_operand : FuncId := 137
def n_billingref25_Strength : FuncId := 138
def n_billingref25_Symbol : FuncId := 139
def n_billingref25_Arity : FuncId := 140
def n_billingref25_own : FuncId := 141
def n_printer_nameOrNone : FuncId := 146
def n_calendar_before : FuncId := 147
def n_calendar_days : FuncId := 148
def n_lexer_fail : FuncId := 161
def n_billingref25_digits : FuncId := 164
def n_billingref25_number : FuncId := 165
def n_billingref24_Length : FuncId := 166
def n_billingref25_Two : FuncId := 167
def n_billingref25_Minute : FuncId := 168
def n_billingref24_Days : FuncId := 169
def n_billingref24_Place : FuncId := 170
def n_billingref24_Attributes : FuncId := 171
def n_calendar_leap : FuncId := 175
def a_billinglaw25_PrinterTariffs : AF := ⟨32, (.seq (.reg [
 iO 1 (.boxr (.t 0)),
 iK 2 (.bool false)])
 (.seq (.seq (.reg [
 iO 7 (.ld (.t 1) (some 7) false none),
 iO 8 (.call n_billingref25_Small [((.t 7), false)] false),
 iO 9 (.un .not (.t 8))])
 (.cond (.t 9) (.seq (.reg [
 iO 10 (.call n_billinglaw25_awake [] false),
 iM 2 10])
 .ret)
 .skip))
 (.seq (.reg [
 iO 12 (.ld (.t 1) (some 7) false none),
 iO 13 (.call n_printer_Tariff [((.t 12), false)] false),
 iM 11 13,
 iO 14 (.ext 11 0),
 iO 15 (.ext 11 1),
 iM 3 14,
 iM 4 15])
 (.seq (.reg [
 iO 17 (.ld (.t 1) (some 7) false none),
 iO 18 (.call n_billingref25_Tariff [((.t 17), false)] false),
 iM 16 18,
 iO 19 (.ext 16 0),
 iO 20 (.ext 16 1),
 iM 5 19,
 iM 6 20])
 (.seq (.reg [
 iM 21 3,
 iM 22 5,
 iB 23 .eql 21 22,
 iM 24 23,
 iG 25 (.mv (.t 4)) 24 true,
 iG 26 (.mv (.t 6)) 24 true,
 iG 27 (.bin .eql (.t 25) (.t 26)) 24 true,
 iO 28 (.pick (.t 24) (.t 27) (.c (.bool false))),
 iM 29 28,
 iG 30 (.call n_billinglaw25_awake [] false) 29 true,
 iO 31 (.pick (.t 29) (.t 30) (.c (.bool false))),
 iM 2 31])
 .ret))))), [.tmp 2]⟩
def a_billinglaw25_PrinterExprs : AF := ⟨32, (.seq (.reg [
 iO 1 (.boxr (.t 0)),
 iK 2 (.bool false)])
 (.seq (.seq (.reg [
 iO 7 (.ld (.t 1) (some 4) false none),
 iO 8 (.call n_billingref25_SmallExpr [((.t 7), false)] false),
 iO 9 (.un .not (.t 8))])
 (.cond (.t 9) (.seq (.reg [
 iO 10 (.call n_billinglaw25_awake [] false),
 iM 2 10])
 .ret)
 .skip))
 (.seq (.reg [
 iO 12 (.ld (.t 1) (some 4) false none),
 iO 13 (.call n_printer_Expr [((.t 12), false)] false),
 iM 11 13,
 iO 14 (.ext 11 0),
 iO 15 (.ext 11 1),
 iM 3 14,
 iM 4 15])
 (.seq (.reg [
 iO 17 (.ld (.t 1) (some 4) false none),
 iO 18 (.call n_billingref25_Expr [((.t 17), false)] false),
 iM 16 18,
 iO 19 (.ext 16 0),
 iO 20 (.ext 16 1),
 iM 5 19,
 iM 6 20])
 (.seq (.reg [
 iM 21 3,
 iM 22 5,
 iB 23 .eql 21 22,
 iM 24 23,
 iG 25 (.mv (.t 4)) 24 true,
 iG 26 (.mv (.t 6)) 24 true,
 iG 27 (.bin .eql (.t 25) (.t 26)) 24 true,
 iO 28 (.pick (.t 24) (.t 27) (.c (.bool false))),
 iM 29 28,
 iG 30 (.call n_billinglaw25_awake [] false) 29 true,
 iO 31 (.pick (.t 29) (.t 30) (.c (.bool false))),
 iM 2 31])
 .ret))))), [.tmp 2]⟩
@[go_sem] def mk_1 : List Bool := [K1,K0,K0,K0,K0,K0,K0,K0,K0,K1,K1,K1,K1,K1,K1,K1,K1,K1,K1,K1,K1,K1,K1,K1,K1,K1,K1,K1,K1,K1,K1,K1,K1,K1,K1,K1,K1,K1,K1,K1,K1,K1,K1,K1,K1,K1,K1]
@[go_sem] def mk_2 : List Bool := [K1,K0,K1,K0,K0,K1,K0,K0,K0,K1,K1,K1,K1,K1,K1,K1,K1,K1,K1,K1,K1,K1,K1,K1,K1,K1,K1,K1,K1,K1,K1,K1,K1,K1,K1,K1,K1,K1,K1,K1,K1,K1,K1,K1,K1,K1,K1,K1,K1,K1,K1,K1,K1,K1,K1,K1,K1,K1,K1,K1,K1,K1,K1,K1,K1,K1,K1,K1,K1]
@[go_sem] def mk_3 : List Bool := [K1,K0,K0,K0,K0,K0,K0,K0,K0,K1,K1,K1,K1,K1,K1,K1,K1,K1,K1,K1,K1,K1,K1,K1,K1,K1,K1,K1,K1,K1,K1]
@[go_sem] def mk_4 : List Bool := [K0,K1,K1,K0,K0,K0,K0,K0,K1,K0,K0,K0,K0,K0,K0,K0,K0,K0,K0,K0,K0,K0,K0,K0,K0,K0,K0,K0,K0,K0,K0,K0,K0,K0,K0,K0,K0,K0,K0,K0,K0,K0,K0,K0,K0,K0,K0,K0,K0,K0,K0,K0,K0,K0,K0,K0,K0,K0,K0,K0,K0,K0,K0,K0,K0,K0,K0,K0,K0,K0,K0,K0,K0,K0,K0,K0,K0,K0,K0,K0,K0,K0,K0,K0,K0,K0,K0,K0,K0,K0,K0,K0,K0,K0,K0,K0,K0,K0,K0,K0,K0,K1,K1,K1,K1,K1,K1,K1,K1,K1,K1,K1,K1,K1,K1,K1]
@[go_sem] def mk_5 : List Bool := [K0,K0,K0,K0,K0,K0,K0,K1,K0,K0,K0,K0,K0,K0,K0,K0,K0,K0,K0,K0,K0,K0,K0,K0,K0,K0,K0,K0,K0,K0,K0,K0,K0,K0,K0,K0,K0,K0,K0,K0,K0,K0,K0,K0,K0,K0,K0,K0,K0,K0,K0,K0,K0,K0,K0,K0,K0,K0,K0,K0,K0,K0,K0,K0,K0,K0,K0,K0,K0,K0,K0,K0,K0,K0,K0,K0,K0,K0,K0,K0,K0,K0,K0,K0,K0,K1,K1,K1,K1,K1,K1,K1,K1,K1,K1,K1,K1,K1,K1,K1,K1]
@[go_sem] def mk_6 : List Bool := [K0,K0,K0,K0,K0,K0,K1,K0,K0,K0,K0,K0,K0,K0,K0,K0,K0,K0,K0,K0,K0,K0,K0,K0,K0,K0,K0,K0,K0,K0,K0,K0,K0,K0,K0,K0,K0,K0,K0,K0,K0,K0,K0,K0,K0,K0,K0,K0,K0,K0,K0,K0,K0,K0,K0,K0,K0,K0,K0,K0,K0,K0,K0,K0,K0,K0,K0,K0,K0,K1,K1,K1,K1,K1,K1,K1,K1,K1,K1,K1,K1,K1,K1,K1,K1]
@[go_sem] def mk_7 : List Bool := [K1,K0,K1,K0,K1,K1,K0,K0,K0,K1,K1,K1,K1,K1,K1,K1,K1,K1,K1,K1,K1,K1,K1,K1,K1,K1,K1,K1,K1,K1,K1,K1,K1,K1,K1,K1,K1,K1,K1,K1,K1,K1,K1,K1,K1,K1,K1,K1,K1,K1,K1,K1,K1,K1,K1,K1,K1,K1,K1,K1,K1,K1,K1,K1,K1,K1,K1,K1,K1]
def billingref25_Small_l1b : AC := (.seq (.seq (.reg [
 iM 47 5,
 iF 48 1 3,
 iL 49 48,
 iM 50 4,
 iO 51 (.ia (.t 49) (.t 50) 2 none none),
 iF 52 51 1,
 iL 53 52,
 iO 54 (.len false (.t 53) none),
 iB 55 .lss 47 54])
 (.cond (.t 55) .skip
 (.exit 2)))
 (.seq (.blk 3 (.seq (.reg [
 iF 58 1 3,
 iL 59 58,
 iM 60 4,
 iO 61 (.ia (.t 59) (.t 60) 2 none none),
 iF 62 61 1,
 iL 63 62,
 iM 64 5,
 iO 65 (.ia (.t 63) (.t 64) 1 none none),
 iL 66 65,
 iO 67 (.len true (.t 66) none),
 iI 68 .gtr 67 100])
 (.cond (.t 68) (.seq (.reg [
 iK 2 (.bool false)])
 .ret)
 .skip)))
 (.reg [
 iM 56 5,
 iI 57 .add 56 1,
 iM 5 57])))
@[go_sem] def mk_8 : List Bool := [K0,K0,K1,K0,K0,K0,K0,K0,K0,K0,K0,K0,K0,K0,K0,K0,K0,K0,K0,K0,K0,K0,K0,K0,K0,K0,K0,K0,K0,K0,K0,K0,K0,K0,K0,K0,K0,K0,K0,K0,K0,K0,K0,K0,K0,K0,K0,K1,K1,K1,K1,K1,K1,K1,K1,K1,K1,K1,K1,K1,K1,K1,K1,K1,K1,K1,K1,K1,K1]
def billingref25_Small_l1 : AC := .pre mk_8 billingref25_Small_l1b
@[go_sem] theorem billingref25_Small_l1_go : LoopRule billingref25_Small_l1 billingref25_Small_l1b mk_8 := loopRule
@[go_sem] theorem billingref25_Small_l1_lp : LpRule billingref25_Small_l1 billingref25_Small_l1b mk_8 := lpRule
def billingref25_Small_k1b : AC := (.reg [
 iM 36 4,
 iI 37 .add 36 1,
 iM 4 37])
def billingref25_Small_k1 : AC := .pre mk_2 billingref25_Small_k1b
def billingref25_Small_l2b : AC := (.seq (.seq (.reg [
 iM 31 4,
 iF 32 1 3,
 iL 33 32,
 iO 34 (.len false (.t 33) none),
 iB 35 .lss 31 34])
 (.cond (.t 35) .skip
 (.exit 0)))
 (.seq (.blk 1 (.seq (.reg [
 iM 38 3,
 iF 39 1 3,
 iL 40 39,
 iM 41 4,
 iO 42 (.ia (.t 40) (.t 41) 2 none none),
 iF 43 42 1,
 iL 44 43,
 iO 45 (.len false (.t 44) none),
 iB 46 .add 38 45,
 iM 3 46])
 (.seq (.reg [
 iK 5 (.int .i64 0)])
 (.blk 2 (.pre mk_1 (.loop billingref25_Small_l1))))))
 billingref25_Small_k1))
@[go_sem] def mk_9 : List Bool := [K0,K0,K1,K0,K0,K1,K0,K0,K0,K0,K0,K0,K0,K0,K0,K0,K0,K0,K0,K0,K0,K0,K0,K0,K0,K0,K0,K0,K0,K0,K0,K1,K1,K1,K1,K1,K1,K1,K1,K1,K1,K1,K1,K1,K1,K1,K1,K1,K1,K1,K1,K1,K1,K1,K1,K1,K1,K1,K1,K1,K1,K1,K1,K1,K1,K1,K1,K1,K1]
def billingref25_Small_l2 : AC := .pre mk_9 billingref25_Small_l2b
@[go_sem] theorem billingref25_Small_l2_go : LoopRule billingref25_Small_l2 billingref25_Small_l2b mk_9 := loopRule
@[go_sem] theorem billingref25_Small_l2_lp : LpRule billingref25_Small_l2 billingref25_Small_l2b mk_9 := lpRule
def billingref25_Small_l3b : AC := (.seq (.seq (.reg [
 iM 69 6,
 iF 70 1 4,
 iL 71 70,
 iO 72 (.len false (.t 71) none),
 iB 73 .lss 69 72])
 (.cond (.t 73) .skip
 (.exit 4)))
 (.seq (.blk 5 (.reg [
 iM 76 3,
 iF 77 1 4,
 iL 78 77,
 iM 79 6,
 iO 80 (.ia (.t 78) (.t 79) 2 none none),
 iF 81 80 1,
 iL 82 81,
 iO 83 (.len false (.t 82) none),
 iB 84 .add 76 83,
 iM 3 84]))
 (.reg [
 iM 74 6,
 iI 75 .add 74 1,
 iM 6 75])))
@[go_sem] def mk_10 : List Bool := [K0,K0,K0,K0,K0,K0,K0,K0,K0,K0,K0,K0,K0,K0,K0,K0,K0,K0,K0,K0,K0,K0,K0,K0,K0,K0,K0,K0,K0,K0,K0,K0,K0,K0,K0,K0,K0,K0,K0,K0,K0,K0,K0,K0,K0,K0,K0,K0,K0,K0,K0,K0,K0,K0,K0,K0,K0,K0,K0,K0,K0,K0,K0,K0,K0,K0,K0,K0,K0,K1,K1,K1,K1,K1,K1,K1,K1,K1,K1,K1,K1,K1,K1,K1,K1]
def billingref25_Small_l3 : AC := .pre mk_10 billingref25_Small_l3b
@[go_sem] theorem billingref25_Small_l3_go : LoopRule billingref25_Small_l3 billingref25_Small_l3b mk_10 := loopRule
@[go_sem] theorem billingref25_Small_l3_lp : LpRule billingref25_Small_l3 billingref25_Small_l3b mk_10 := lpRule
def billingref25_Small_l4b : AC := (.seq (.seq (.reg [
 iM 85 7,
 iF 86 1 5,
 iL 87 86,
 iO 88 (.len false (.t 87) none),
 iB 89 .lss 85 88])
 (.cond (.t 89) .skip
 (.exit 6)))
 (.seq (.blk 7 (.reg [
 iM 92 3,
 iF 93 1 5,
 iL 94 93,
 iM 95 7,
 iO 96 (.ia (.t 94) (.t 95) 5 none none),
 iF 97 96 4,
 iL 98 97,
 iO 99 (.len false (.t 98) none),
 iB 100 .add 92 99,
 iM 3 100]))
 (.reg [
 iM 90 7,
 iI 91 .add 90 1,
 iM 7 91])))
@[go_sem] def mk_11 : List Bool := [K0,K0,K0,K0,K0,K0,K0,K0,K0,K0,K0,K0,K0,K0,K0,K0,K0,K0,K0,K0,K0,K0,K0,K0,K0,K0,K0,K0,K0,K0,K0,K0,K0,K0,K0,K0,K0,K0,K0,K0,K0,K0,K0,K0,K0,K0,K0,K0,K0,K0,K0,K0,K0,K0,K0,K0,K0,K0,K0,K0,K0,K0,K0,K0,K0,K0,K0,K0,K0,K0,K0,K0,K0,K0,K0,K0,K0,K0,K0,K0,K0,K0,K0,K0,K0,K1,K1,K1,K1,K1,K1,K1,K1,K1,K1,K1,K1,K1,K1,K1,K1]
def billingref25_Small_l4 : AC := .pre mk_11 billingref25_Small_l4b
@[go_sem] theorem billingref25_Small_l4_go : LoopRule billingref25_Small_l4 billingref25_Small_l4b mk_11 := loopRule
@[go_sem] theorem billingref25_Small_l4_lp : LpRule billingref25_Small_l4 billingref25_Small_l4b mk_11 := lpRule
def billingref25_Small_l5b : AC := (.seq (.seq (.reg [
 iM 101 8,
 iF 102 1 6,
 iL 103 102,
 iO 104 (.len false (.t 103) none),
 iB 105 .lss 101 104])
 (.cond (.t 105) .skip
 (.exit 8)))
 (.seq (.blk 9 (.seq (.reg [
 iF 108 1 6,
 iL 109 108,
 iM 110 8,
 iO 111 (.ia (.t 109) (.t 110) 6 none none),
 iF 112 111 1,
 iO 113 (.ld (.t 112) (some 4) false none),
 iO 114 (.call n_billingref25_SmallExpr [((.t 113), false)] false),
 iO 115 (.un .not (.t 114))])
 (.cond (.t 115) (.seq (.reg [
 iK 2 (.bool false)])
 .ret)
 .skip)))
 (.reg [
 iM 106 8,
 iI 107 .add 106 1,
 iM 8 107])))
@[go_sem] def mk_12 : List Bool := [K0,K0,K1,K0,K0,K0,K0,K0,K0,K0,K0,K0,K0,K0,K0,K0,K0,K0,K0,K0,K0,K0,K0,K0,K0,K0,K0,K0,K0,K0,K0,K0,K0,K0,K0,K0,K0,K0,K0,K0,K0,K0,K0,K0,K0,K0,K0,K0,K0,K0,K0,K0,K0,K0,K0,K0,K0,K0,K0,K0,K0,K0,K0,K0,K0,K0,K0,K0,K0,K0,K0,K0,K0,K0,K0,K0,K0,K0,K0,K0,K0,K0,K0,K0,K0,K0,K0,K0,K0,K0,K0,K0,K0,K0,K0,K0,K0,K0,K0,K0,K0,K1,K1,K1,K1,K1,K1,K1,K1,K1,K1,K1,K1,K1,K1,K1]
def billingref25_Small_l5 : AC := .pre mk_12 billingref25_Small_l5b
@[go_sem] theorem billingref25_Small_l5_go : LoopRule billingref25_Small_l5 billingref25_Small_l5b mk_12 := loopRule
@[go_sem] theorem billingref25_Small_l5_lp : LpRule billingref25_Small_l5 billingref25_Small_l5b mk_12 := lpRule
def billingref25_Small_k2b : AC := (.seq (.reg [
 iM 116 3,
 iI 117 .leq 116 300,
 iM 2 117])
 .ret)
def billingref25_Small_k2 : AC := .pre mk_4 billingref25_Small_k2b
def billingref25_Small_k3b : AC := (.seq (.seq (.reg [
 iK 8 (.int .i64 0)])
 (.blk 8 (.loop billingref25_Small_l5)))
 billingref25_Small_k2)
def billingref25_Small_k3 : AC := .pre mk_5 billingref25_Small_k3b
def billingref25_Small_k4b : AC := (.seq (.seq (.reg [
 iK 7 (.int .i64 0)])
 (.blk 6 (.loop billingref25_Small_l4)))
 billingref25_Small_k3)
def billingref25_Small_k4 : AC := .pre mk_6 billingref25_Small_k4b
def billingref25_Small_k5b : AC := (.seq (.seq (.reg [
 iK 6 (.int .i64 0)])
 (.blk 4 (.loop billingref25_Small_l3)))
 billingref25_Small_k4)
def billingref25_Small_k5 : AC := .pre mk_7 billingref25_Small_k5b
def a_billingref25_Small : AF := ⟨118, (.seq (.reg [
 iO 1 (.boxr (.t 0)),
 iK 2 (.bool false)])
 (.seq (.seq (.reg [
 iF 9 1 3,
 iL 10 9,
 iO 11 (.len false (.t 10) none),
 iI 12 .gtr 11 70,
 iM 13 12,
 iG 14 (.fa (.t 1) 4 none) 13 false,
 iG 15 (.ld (.t 14) none false none) 13 false,
 iG 16 (.len false (.t 15) none) 13 false,
 iG 17 (.bin .gtr (.t 16) (.c (.int .i64 70))) 13 false,
 iO 18 (.pick (.t 13) (.c (.bool true)) (.t 17)),
 iM 19 18,
 iG 20 (.fa (.t 1) 5 none) 19 false,
 iG 21 (.ld (.t 20) none false none) 19 false,
 iG 22 (.len false (.t 21) none) 19 false,
 iG 23 (.bin .gtr (.t 22) (.c (.int .i64 70))) 19 false,
 iO 24 (.pick (.t 19) (.c (.bool true)) (.t 23)),
 iM 25 24,
 iG 26 (.fa (.t 1) 6 none) 25 false,
 iG 27 (.ld (.t 26) none false none) 25 false,
 iG 28 (.len false (.t 27) none) 25 false,
 iG 29 (.bin .gtr (.t 28) (.c (.int .i64 70))) 25 false,
 iO 30 (.pick (.t 25) (.c (.bool true)) (.t 29))])
 (.cond (.t 30) (.seq (.reg [
 iK 2 (.bool false)])
 .ret)
 .skip))
 (.seq (.reg [
 iK 3 (.int .i64 0)])
 (.seq (.seq (.reg [
 iK 4 (.int .i64 0)])
 (.blk 0 (.pre mk_3 (.loop billingref25_Small_l2))))
 billingref25_Small_k5)))), [.tmp 2]⟩
def a_billinglaw25_awake : AF := ⟨52, (.seq (.reg [
 iK 0 (.bool false)])
 (.seq (.reg [
 iO 11 (.build [(.str []), (.int .i64 0), (.bool false), (.sl false 2 []), (.sl false 2 []), (.sl false 5 []), (.sl false 6 [])] [(0, 1, (.c (.str [98, 97, 115, 105, 99]))), (1, 1, (.c (.int .i64 117000)))]),
 iO 12 (.call n_printer_Tariff [((.t 11), false)] false),
 iM 10 12,
 iO 13 (.ext 10 0),
 iO 14 (.ext 10 1),
 iM 1 13,
 iM 2 14])
 (.seq (.reg [
 iO 15 (.build [(.int .i64 0), (.int .i64 0), (.str []), (.sl false 4 [])] [(0, 1, (.c (.int .i64 1))), (1, 1, (.c (.int .i64 1)))]),
 iO 16 (.build [(.int .i64 0), (.int .i64 0), (.str []), (.sl false 4 [])] [(0, 1, (.c (.int .i64 1))), (1, 1, (.c (.int .i64 2)))]),
 iO 17 (.build [(.int .i64 0), (.int .i64 0), (.str []), (.sl false 4 [])] [(0, 1, (.c (.int .i64 1))), (1, 1, (.c (.int .i64 3)))]),
 iO 3 (.newbox [(.int .i64 0), (.int .i64 0), (.str []), (.sl false 4 [])]),
 iO 4 (.newbox [(.int .i64 0), (.int .i64 0), (.str []), (.sl false 4 [])]),
 iO 5 (.newbox [(.int .i64 0), (.int .i64 0), (.str []), (.sl false 4 [])]),
 iN (.st (.t 3) (.t 15) 4 false (some 3)),
 iN (.st (.t 4) (.t 16) 4 false (some 4)),
 iN (.st (.t 5) (.t 17) 4 false (some 5))])
 (.seq (.reg [
 iO 19 (.ld (.t 3) (some 4) false (some 3)),
 iO 20 (.ld (.t 4) (some 4) false (some 4)),
 iO 21 (.ld (.t 5) (some 4) false (some 5)),
 iO 22 (.bsl 4 2 (.agg [(.int .i64 0), (.int .i64 0), (.str []), (.sl false 4 [])]) [(0, (.t 20)), (1, (.t 21))]),
 iS 22,
 iO 23 (.build [(.int .i64 0), (.int .i64 0), (.str []), (.sl false 4 [])] [(0, 1, (.c (.int .i64 12))), (3, 1, (.t 22))]),
 iO 24 (.bsl 4 2 (.agg [(.int .i64 0), (.int .i64 0), (.str []), (.sl false 4 [])]) [(0, (.t 19)), (1, (.t 23))]),
 iS 24,
 iO 25 (.build [(.int .i64 0), (.int .i64 0), (.str []), (.sl false 4 [])] [(0, 1, (.c (.int .i64 12))), (3, 1, (.t 24))]),
 iO 26 (.call n_printer_Expr [((.t 25), false)] false),
 iM 18 26,
 iO 27 (.ext 18 0),
 iO 28 (.ext 18 1),
 iM 6 27,
 iM 7 28])
 (.seq (.reg [
 iO 30 (.build [(.str []), (.int .i64 0), (.bool false), (.sl false 2 []), (.sl false 2 []), (.sl false 5 []), (.sl false 6 [])] [(0, 1, (.c (.str [97, 110, 121])))]),
 iO 31 (.call n_printer_Tariff [((.t 30), false)] false),
 iM 29 31,
 iO 32 (.ext 29 0),
 iO 33 (.ext 29 1),
 iM 8 32,
 iM 9 33])
 (.seq (.reg [
 iM 34 1,
 iO 35 (.bin .eql (.t 34) (.c (.str [116, 97, 114, 105, 102, 102, 32, 98, 97, 115, 105, 99, 32, 102, 114, 111, 109, 32, 50, 48, 48, 48, 45, 48, 49, 45, 48, 50, 32, 48, 56, 58, 51, 48, 58, 48, 48, 32, 59, 10]))),
 iM 36 35,
 iG 37 (.mv (.t 2)) 36 true,
 iG 38 (.bin .eql (.t 37) (.c (.int .i64 0))) 36 true,
 iO 39 (.pick (.t 36) (.t 38) (.c (.bool false))),
 iM 40 39,
 iG 41 (.mv (.t 6)) 40 true,
 iG 42 (.bin .eql (.t 41) (.c (.str [49, 32, 45, 32, 40, 50, 32, 45, 32, 51, 41]))) 40 true,
 iO 43 (.pick (.t 40) (.t 42) (.c (.bool false))),
 iM 44 43,
 iG 45 (.mv (.t 7)) 44 true,
 iG 46 (.bin .eql (.t 45) (.c (.int .i64 0))) 44 true,
 iO 47 (.pick (.t 44) (.t 46) (.c (.bool false))),
 iM 48 47,
 iG 49 (.mv (.t 9)) 48 true,
 iG 50 (.bin .eql (.t 49) (.c (.int .i64 8))) 48 true,
 iO 51 (.pick (.t 48) (.t 50) (.c (.bool false))),
 iM 0 51])
 .ret)))))), [.tmp 0]⟩
@[go_sem] def mk_13 : List Bool := [K1,K0,K1,K1,K1,K1,K0,K0,K0,K0,K0,K0,K0,K0,K0,K1,K1,K1,K1,K1,K1,K1,K1,K1,K1,K1,K1,K1,K1,K1,K1,K1,K1,K1,K1,K1,K1,K1,K1,K1,K1,K1,K1,K1,K1,K1,K1,K1,K1,K1,K1,K1]
@[go_sem] def mk_14 : List Bool := [K0,K0,K0,K0,K0,K0,K0,K0,K0,K0,K0,K0,K0,K0,K0,K0,K0,K0,K0,K0,K0,K0,K0,K0,K0,K0,K0,K0,K0,K0,K0,K0,K0,K0,K0,K0,K0,K0,K0,K0,K0,K0,K0,K0,K0,K0,K0,K0,K0,K0,K0,K0,K0,K0,K0,K0,K0,K0,K0,K0,K0,K0,K0,K0,K0,K0,K0,K0,K1]
@[go_sem] def mk_15 : List Bool := [K0,K0,K0,K0,K0,K0,K0,K0,K0,K0,K0,K0,K0,K0,K0,K0,K0,K0,K0,K0,K0,K0,K0,K0,K0,K0,K0,K0,K0,K0,K0,K0,K0,K0,K0,K0,K0,K0,K0,K0,K0,K0,K0,K0,K0,K0,K0,K0,K0,K0,K0,K0,K0,K0,K0,K0,K0,K0,K0,K0,K0,K0,K0,K0,K0,K0,K0,K0,K0,K0,K0,K0,K0,K0,K0,K0,K0,K0,K0,K0,K0,K0,K0,K0,K0,K1]
@[go_sem] def mk_16 : List Bool := [K0,K1,K0,K0,K0,K0,K0,K0,K0,K0,K0,K0,K0,K0,K0,K0,K0,K0,K0,K0,K0,K0,K0,K0,K0,K0,K0,K0,K0,K0,K0,K0,K0,K0,K0,K0,K0,K0,K0,K0,K0,K0,K0,K0,K0,K0,K0,K0,K0,K0,K0,K0,K0,K0,K0,K0,K0,K0,K0,K0,K0,K0,K0,K0,K0,K0,K0,K0,K0,K0,K0,K0,K0,K0,K0,K0,K0,K0,K0,K0,K0,K0,K0,K0,K0,K0,K0,K0,K0,K0,K0,K0,K0,K0,K0,K0,K0,K1]
@[go_sem] def mk_17 : List Bool := [K0,K0,K0,K0,K0,K0,K1]
@[go_sem] def mk_18 : List Bool := [K0,K1,K0,K0,K0,K0,K0,K0,K0,K0,K0,K0,K0,K0,K1,K0,K0,K0,K0,K0,K0,K0,K0,K0,K0,K0,K0,K0,K0,K0,K0,K0,K0,K0,K0,K0,K0,K0,K0,K0,K0,K0,K0,K0,K0,K0,K0,K0,K0,K0,K0,K0,K0,K0,K0,K0,K0,K0,K0,K0,K0,K0,K0,K0,K0,K0,K0,K0,K0,K0,K0,K0,K0,K0,K0,K0,K0,K0,K0,K0,K0,K0,K0,K0,K0,K0,K0,K0,K0,K0,K0,K0,K0,K0,K0,K0,K0,K1,K1,K1,K1,K1,K1,K1,K1,K1,K1,K1,K1,K1,K1,K1,K1,K1,K1,K1,K1]
@[go_sem] def mk_19 : List Bool := [K0,K0,K0,K0,K0,K0,K0,K0,K0,K0,K0,K0,K1,K0,K0,K0,K0,K0,K0,K0,K0,K0,K0,K0,K0,K0,K0,K0,K0,K0,K0,K0,K0,K0,K0,K0,K0,K0,K0,K0,K0,K0,K0,K0,K0,K0,K0,K0,K0,K0,K0,K0,K0,K0,K0,K0,K0,K0,K0,K0,K0,K0,K0,K0,K0,K0,K0,K0,K0,K0,K0,K0,K0,K0,K0,K0,K0,K0,K0,K0,K0,K0,K0,K0,K0,K1,K1,K1,K1,K1,K1,K1,K1,K1,K1,K1,K1]
@[go_sem] def mk_20 : List Bool := [K0,K0,K0,K0,K0,K0,K0,K0,K0,K0,K1,K0,K0,K0,K0,K0,K0,K0,K0,K0,K0,K0,K0,K0,K0,K0,K0,K0,K0,K0,K0,K0,K0,K0,K0,K0,K0,K0,K0,K0,K0,K0,K0,K0,K0,K0,K0,K0,K0,K0,K0,K0,K0,K0,K0,K0,K0,K0,K0,K0,K0,K0,K0,K0,K0,K0,K0,K0,K1,K1,K1,K1,K1,K1,K1,K1,K1,K1,K1,K1,K1,K1,K1,K1,K1]
@[go_sem] def mk_21 : List Bool := [K1,K0,K1,K1,K1,K1,K0,K0,K1,K0,K0,K0,K0,K0,K0,K1,K1,K1,K1,K1,K1,K1,K1,K1,K1,K1,K1,K1,K1,K1,K1,K1,K1,K1,K1,K1,K1,K1,K1,K1,K1,K1,K1,K1,K1,K1,K1,K1,K1,K1,K1,K1,K1,K1,K1,K1,K1,K1,K1,K1,K1,K1,K1,K1,K1,K1,K1,K1]
def printer_Tariff_l1b : AC := (.seq (.reg [
 iB 55 .lss 54 53])
 (.seq (.cond (.t 55) .skip
 (.exit 0))
 (.seq (.blk 1 (.seq (.reg [
 iO 56 (.ia (.t 52) (.t 54) 2 none none),
 iO 57 (.ld (.t 56) (some 2) false none),
 iO 8 (.newbox [(.str []), (.sl false 1 [])]),
 iN (.st (.t 8) (.t 57) 2 false (some 8))])
 (.dreg [
 iM 58 6,
 iO 59 (.fa (.t 8) 0 (some 8)),
 iO 60 (.ld (.t 59) none false (some 8)),
 iO 61 (.fa (.t 8) 1 (some 8)),
 iO 62 (.ld (.t 61) none false (some 8)),
 iO 63 (.call n_printer_list [((.t 62), false)] false),
 iO 64 (.bsl 1 5 (.str []) [(0, (.c (.str [122, 111, 110, 101, 32]))), (1, (.t 60)), (2, (.c (.str [32]))), (3, (.t 63)), (4, (.c (.str [32, 59, 10])))]),
 iO 65 (.call n_printer_join [((.t 64), true)] false),
 iO 66 (.app 1 1 (.t 58) (.t 65) none),
 iM 6 66])))
 (.reg [
 iI 67 .add 54 1,
 iM 54 67]))))
@[go_sem] def mk_22 : List Bool := [K0,K0,K0,K0,K0,K0,K0,K0,K1,K0,K0,K0,K0,K0,K0,K0,K0,K0,K0,K0,K0,K0,K0,K0,K0,K0,K0,K0,K0,K0,K0,K0,K0,K0,K0,K0,K0,K0,K0,K0,K0,K0,K0,K0,K0,K0,K0,K0,K0,K0,K0,K0,K0,K0,K0,K1,K1,K1,K1,K1,K1,K1,K1,K1,K1,K1,K1,K1]
def printer_Tariff_l1 : AC := .pre mk_22 printer_Tariff_l1b
@[go_sem] theorem printer_Tariff_l1_go : LoopRule printer_Tariff_l1 printer_Tariff_l1b mk_22 := loopRule
@[go_sem] theorem printer_Tariff_l1_lp : LpRule printer_Tariff_l1 printer_Tariff_l1b mk_22 := lpRule
def printer_Tariff_l2b : AC := (.seq (.reg [
 iB 72 .lss 71 70])
 (.seq (.cond (.t 72) .skip
 (.exit 2))
 (.seq (.blk 3 (.seq (.reg [
 iO 73 (.ia (.t 69) (.t 71) 2 none none),
 iO 74 (.ld (.t 73) (some 2) false none),
 iO 10 (.newbox [(.str []), (.sl false 3 [])]),
 iN (.st (.t 10) (.t 74) 2 false (some 10))])
 (.dreg [
 iM 75 6,
 iO 76 (.fa (.t 10) 0 (some 10)),
 iO 77 (.ld (.t 76) none false (some 10)),
 iO 78 (.fa (.t 10) 1 (some 10)),
 iO 79 (.ld (.t 78) none false (some 10)),
 iO 80 (.call n_printer_slots [((.t 79), false)] false),
 iO 81 (.bsl 1 5 (.str []) [(0, (.c (.str [98, 97, 110, 100, 32]))), (1, (.t 77)), (2, (.c (.str [32]))), (3, (.t 80)), (4, (.c (.str [32, 59, 10])))]),
 iO 82 (.call n_printer_join [((.t 81), true)] false),
 iO 83 (.app 1 1 (.t 75) (.t 82) none),
 iM 6 83])))
 (.reg [
 iI 84 .add 71 1,
 iM 71 84]))))
@[go_sem] def mk_23 : List Bool := [K0,K0,K0,K0,K0,K0,K0,K0,K0,K0,K1,K0,K0,K0,K0,K0,K0,K0,K0,K0,K0,K0,K0,K0,K0,K0,K0,K0,K0,K0,K0,K0,K0,K0,K0,K0,K0,K0,K0,K0,K0,K0,K0,K0,K0,K0,K0,K0,K0,K0,K0,K0,K0,K0,K0,K0,K0,K0,K0,K0,K0,K0,K0,K0,K0,K0,K0,K0,K0,K0,K0,K0,K1,K1,K1,K1,K1,K1,K1,K1,K1,K1,K1,K1,K1]
def printer_Tariff_l2 : AC := .pre mk_23 printer_Tariff_l2b
@[go_sem] theorem printer_Tariff_l2_go : LoopRule printer_Tariff_l2 printer_Tariff_l2b mk_23 := loopRule
@[go_sem] theorem printer_Tariff_l2_lp : LpRule printer_Tariff_l2 printer_Tariff_l2b mk_23 := lpRule
def printer_Tariff_l3b : AC := (.seq (.reg [
 iB 89 .lss 88 87])
 (.seq (.cond (.t 89) .skip
 (.exit 4))
 (.seq (.blk 5 (.seq (.reg [
 iO 90 (.ia (.t 86) (.t 88) 5 none none),
 iO 91 (.ld (.t 90) (some 5) false none),
 iO 12 (.newbox [(.int .i64 0), (.str []), (.str []), (.int .i64 0), (.sl false 3 [])]),
 iN (.st (.t 12) (.t 91) 5 false (some 12))])
 (.reg [
 iM 92 6,
 iO 93 (.ld (.t 12) (some 5) false (some 12)),
 iO 94 (.call n_printer_rate [((.t 93), false)] false),
 iO 95 (.app 1 1 (.t 92) (.t 94) none),
 iM 6 95])))
 (.reg [
 iI 96 .add 88 1,
 iM 88 96]))))
@[go_sem] def mk_24 : List Bool := [K0,K0,K0,K0,K0,K0,K0,K0,K0,K0,K0,K0,K1,K0,K0,K0,K0,K0,K0,K0,K0,K0,K0,K0,K0,K0,K0,K0,K0,K0,K0,K0,K0,K0,K0,K0,K0,K0,K0,K0,K0,K0,K0,K0,K0,K0,K0,K0,K0,K0,K0,K0,K0,K0,K0,K0,K0,K0,K0,K0,K0,K0,K0,K0,K0,K0,K0,K0,K0,K0,K0,K0,K0,K0,K0,K0,K0,K0,K0,K0,K0,K0,K0,K0,K0,K0,K0,K0,K0,K1,K1,K1,K1,K1,K1,K1,K1]
def printer_Tariff_l3 : AC := .pre mk_24 printer_Tariff_l3b
@[go_sem] theorem printer_Tariff_l3_go : LoopRule printer_Tariff_l3 printer_Tariff_l3b mk_24 := loopRule
@[go_sem] theorem printer_Tariff_l3_lp : LpRule printer_Tariff_l3 printer_Tariff_l3b mk_24 := lpRule
def printer_Tariff_l4b : AC := (.seq (.reg [
 iB 101 .lss 100 99])
 (.seq (.cond (.t 101) .skip
 (.exit 6))
 (.seq (.blk 7 (.seq (.reg [
 iO 102 (.ia (.t 98) (.t 100) 6 none none),
 iO 103 (.ld (.t 102) (some 6) false none),
 iO 14 (.newbox [(.str []), (.int .i64 0), (.int .i64 0), (.str []), (.sl false 4 []), (.int .i64 0)]),
 iN (.st (.t 14) (.t 103) 6 false (some 14))])
 (.dreg [
 iM 104 6,
 iO 105 (.fa (.t 14) 0 (some 14)),
 iO 106 (.ld (.t 105) none false (some 14)),
 iO 107 (.fa (.t 14) 5 (some 14)),
 iO 108 (.ld (.t 107) none false (some 14)),
 iO 109 (.call n_printer_decimal [((.t 108), false), ((.c (.int .i64 1)), false)] false),
 iO 110 (.fa (.t 14) 1 (some 14)),
 iO 111 (.ld (.t 110) (some 4) false (some 14)),
 iO 112 (.call n_printer_text [((.t 111), false)] false),
 iO 113 (.bsl 1 7 (.str []) [(0, (.c (.str [100, 105, 115, 99, 111, 117, 110, 116, 32]))), (1, (.t 106)), (2, (.c (.str [32]))), (3, (.t 109)), (4, (.c (.str [32, 112, 111, 105, 110, 116, 115, 32, 119, 104, 101, 110, 32]))), (5, (.t 112)), (6, (.c (.str [32, 59, 10])))]),
 iO 114 (.call n_printer_join [((.t 113), true)] false),
 iO 115 (.app 1 1 (.t 104) (.t 114) none),
 iM 6 115])))
 (.reg [
 iI 116 .add 100 1,
 iM 100 116]))))
@[go_sem] def mk_25 : List Bool := [K0,K0,K0,K0,K0,K0,K0,K0,K0,K0,K0,K0,K0,K0,K1,K0,K0,K0,K0,K0,K0,K0,K0,K0,K0,K0,K0,K0,K0,K0,K0,K0,K0,K0,K0,K0,K0,K0,K0,K0,K0,K0,K0,K0,K0,K0,K0,K0,K0,K0,K0,K0,K0,K0,K0,K0,K0,K0,K0,K0,K0,K0,K0,K0,K0,K0,K0,K0,K0,K0,K0,K0,K0,K0,K0,K0,K0,K0,K0,K0,K0,K0,K0,K0,K0,K0,K0,K0,K0,K0,K0,K0,K0,K0,K0,K0,K0,K0,K0,K0,K0,K1,K1,K1,K1,K1,K1,K1,K1,K1,K1,K1,K1,K1,K1,K1,K1]
def printer_Tariff_l4 : AC := .pre mk_25 printer_Tariff_l4b
@[go_sem] theorem printer_Tariff_l4_go : LoopRule printer_Tariff_l4 printer_Tariff_l4b mk_25 := loopRule
@[go_sem] theorem printer_Tariff_l4_lp : LpRule printer_Tariff_l4 printer_Tariff_l4b mk_25 := lpRule
def printer_Tariff_k1b : AC := (.seq (.seq (.reg [
 iO 117 (.al 6),
 iO 118 (.len false (.t 117) (some 6)),
 iI 119 .gtr 118 65536])
 (.cond (.t 119) (.seq (.reg [
 iK 2 (.str []),
 iK 3 (.int .i64 5)])
 (.pre mk_17 .ret))
 .skip))
 (.seq (.reg [
 iO 120 (.al 6),
 iO 121 (.cvs (.t 120) (some 6)),
 iM 2 121,
 iK 3 (.int .i64 0)])
 (.pre mk_17 .ret)))
def printer_Tariff_k1 : AC := .pre mk_18 printer_Tariff_k1b
def printer_Tariff_k2b : AC := (.seq (.seq (.reg [
 iF 97 1 6,
 iL 98 97,
 iO 99 (.len false (.t 98) none),
 iK 100 (.int .i64 0)])
 (.blk 6 (.pre mk_16 (.loop printer_Tariff_l4))))
 printer_Tariff_k1)
def printer_Tariff_k2 : AC := .pre mk_19 printer_Tariff_k2b
def printer_Tariff_k3b : AC := (.seq (.seq (.reg [
 iF 85 1 5,
 iL 86 85,
 iO 87 (.len false (.t 86) none),
 iK 88 (.int .i64 0)])
 (.blk 4 (.pre mk_15 (.loop printer_Tariff_l3))))
 printer_Tariff_k2)
def printer_Tariff_k3 : AC := .pre mk_20 printer_Tariff_k3b
def printer_Tariff_k4b : AC := (.seq (.seq (.reg [
 iF 68 1 4,
 iL 69 68,
 iO 70 (.len false (.t 69) none),
 iK 71 (.int .i64 0)])
 (.blk 2 (.pre mk_14 (.loop printer_Tariff_l2))))
 printer_Tariff_k3)
def printer_Tariff_k4 : AC := .pre mk_21 printer_Tariff_k4b
def a_printer_Tariff : AF := ⟨122, (.seq (.reg [
 iO 1 (.boxr (.t 0)),
 iK 2 (.str []),
 iK 3 (.int .i64 0)])
 (.seq (.seq (.reg [
 iO 15 (.ld (.t 1) (some 7) false none),
 iO 16 (.call n_printer_printable [((.t 15), false)] false),
 iO 17 (.un .not (.t 16))])
 (.cond (.t 17) (.seq (.reg [
 iK 2 (.str []),
 iK 3 (.int .i64 8)])
 .ret)
 .skip))
 (.seq (.reg [
 iF 18 1 1,
 iL 19 18,
 iI 20 .quo 19 86400,
 iO 21 (.call n_calendar_Print [((.t 20), false)] false),
 iM 4 21])
 (.seq (.seq (.reg [
 iF 22 1 1,
 iL 23 22,
 iI 24 .rem 23 86400,
 iM 5 24])
 (.seq (.reg [
 iM 25 5,
 iI 26 .gtr 25 0])
 (.cond (.t 26) (.reg [
 iM 27 4,
 iM 28 5,
 iI 29 .quo 28 3600,
 iO 30 (.call n_printer_decimal [((.t 29), false), ((.c (.int .i64 2)), false)] false),
 iM 31 5,
 iI 32 .quo 31 60,
 iI 33 .rem 32 60,
 iO 34 (.call n_printer_decimal [((.t 33), false), ((.c (.int .i64 2)), false)] false),
 iM 35 5,
 iI 36 .rem 35 60,
 iO 37 (.call n_printer_decimal [((.t 36), false), ((.c (.int .i64 2)), false)] false),
 iO 38 (.bsl 1 7 (.str []) [(0, (.t 27)), (1, (.c (.str [32]))), (2, (.t 30)), (3, (.c (.str [58]))), (4, (.t 34)), (5, (.c (.str [58]))), (6, (.t 37))]),
 iS 38,
 iO 39 (.call n_printer_join [((.t 38), false)] false),
 iM 4 39])
 .skip)))
 (.seq (.seq (.reg [
 iF 40 1 2,
 iL 41 40])
 (.cond (.t 41) (.reg [
 iM 42 4,
 iO 43 (.bsl 1 2 (.str []) [(0, (.t 42)), (1, (.c (.str [32, 115, 112, 108, 105, 116])))]),
 iS 43,
 iO 44 (.call n_printer_join [((.t 43), false)] false),
 iM 4 44])
 .skip))
 (.seq (.reg [
 iF 45 1 0,
 iL 46 45,
 iM 47 4,
 iO 48 (.bsl 1 5 (.str []) [(0, (.c (.str [116, 97, 114, 105, 102, 102, 32]))), (1, (.t 46)), (2, (.c (.str [32, 102, 114, 111, 109, 32]))), (3, (.t 47)), (4, (.c (.str [32, 59, 10])))]),
 iS 48,
 iO 49 (.call n_printer_join [((.t 48), false)] false),
 iO 50 (.cvb (.t 49)),
 iM 6 50])
 (.seq (.seq (.reg [
 iF 51 1 3,
 iL 52 51,
 iO 53 (.len false (.t 52) none),
 iK 54 (.int .i64 0)])
 (.blk 0 (.pre mk_13 (.loop printer_Tariff_l1))))
 printer_Tariff_k4))))))), [.tmp 2, .tmp 3]⟩
def a_printer_Expr : AF := ⟨14, (.seq (.reg [
 iO 1 (.boxr (.t 0)),
 iK 2 (.str []),
 iK 3 (.int .i64 0)])
 (.seq (.seq (.reg [
 iO 5 (.ld (.t 1) (some 4) false none),
 iO 6 (.call n_printer_printableExpr [((.t 5), false)] false),
 iO 7 (.un .not (.t 6))])
 (.cond (.t 7) (.seq (.reg [
 iK 2 (.str []),
 iK 3 (.int .i64 8)])
 .ret)
 .skip))
 (.seq (.reg [
 iO 8 (.ld (.t 1) (some 4) false none),
 iO 9 (.call n_printer_text [((.t 8), false)] false),
 iM 4 9])
 (.seq (.seq (.reg [
 iM 10 4,
 iO 11 (.len true (.t 10) none),
 iI 12 .gtr 11 65536])
 (.cond (.t 12) (.seq (.reg [
 iK 2 (.str []),
 iK 3 (.int .i64 5)])
 .ret)
 .skip))
 (.seq (.reg [
 iM 13 4,
 iM 2 13,
 iK 3 (.int .i64 0)])
 .ret))))), [.tmp 2, .tmp 3]⟩
@[go_sem] def mk_26 : List Bool := [K1,K0,K0,K0,K0,K0,K0,K1,K1,K1,K1,K1,K1,K1]
def lexer_Scan_l1b : AC := (.blk 1 (.seq (.reg [
 iM 14 5,
 iO 15 (.call n_lexer_scanner_next [((.t 14), false)] true),
 iO 6 (.newbox [(.int .i64 0), (.int .i64 0), (.int .i64 0), (.str [])]),
 iN (.st (.t 6) (.t 15) 4 false (some 6))])
 (.seq (.reg [
 iO 16 (.ld (.t 2) none true none),
 iO 17 (.ld (.t 6) (some 4) false (some 6)),
 iO 18 (.bsl 4 1 (.agg [(.int .i64 0), (.int .i64 0), (.int .i64 0), (.str [])]) [(0, (.t 17))]),
 iO 19 (.app 4 40 (.t 16) (.t 18) none),
 iN (.st (.t 2) (.t 19) 1 true none)])
 (.seq (.reg [
 iO 20 (.fa (.t 6) 0 (some 6)),
 iO 21 (.ld (.t 20) none false (some 6)),
 iI 22 .eql 21 0])
 (.cond (.t 22) (.seq (.reg [
 iN (.cmh (.t 2)),
 iL 23 2,
 iN (.st (.t 2) (.t 23) 1 false none),
 iN (.st (.t 3) (.c (.int .i64 0)) 1 false none),
 iN (.st (.t 4) (.c (.int .i64 0)) 1 false none)])
 .ret)
 .skip)))))
@[go_sem] def mk_27 : List Bool := [K0,K0,K0,K0,K0,K0,K1,K0,K0,K0,K0,K0,K0,K0,K1,K1,K1,K1,K1,K1,K1,K1,K1,K1]
def lexer_Scan_l1 : AC := .pre mk_27 lexer_Scan_l1b
@[go_sem] theorem lexer_Scan_l1_go : LoopRule lexer_Scan_l1 lexer_Scan_l1b mk_27 := loopRule
@[go_sem] theorem lexer_Scan_l1_lp : LpRule lexer_Scan_l1 lexer_Scan_l1b mk_27 := lpRule
def p1_lexer_Scan : AC := (.reg [
 iO 2 (.newobj [(.sl true 4 [])]),
 iO 3 (.newobj [(.int .i64 0)]),
 iO 4 (.newobj [(.int .i64 0)])])
def p2_lexer_Scan : AC := (.seq (.reg [
 iM 7 0,
 iO 8 (.len true (.t 7) none),
 iI 9 .gtr 8 65536])
 (.cond (.t 9) (.seq (.reg [
 iN (.st (.t 2) (.c (.sl false 4 [])) 1 false none),
 iN (.st (.t 3) (.c (.int .i64 0)) 1 false none),
 iN (.st (.t 4) (.c (.int .i64 5)) 1 false none)])
 .ret)
 .skip))
def b_lexer_Scan : AC := (.seq (.reg [
 iM 11 0,
 iO 12 (.build [(.str []), (.int .i64 0)] [(0, 1, (.t 11))]),
 iO 13 (.boxo (.t 12)),
 iM 5 13])
 (.blk 0 (.pre mk_26 (.loop lexer_Scan_l1))))
@[go_sem] def mk_28 : List Bool := [K0,K0,K1]
@[go_sem] def mk_29 : List Bool := [K1,K0,K1,K0,K1,K1,K1,K1,K1,K1,K1,K1,K1,K1,K1,K1,K1,K1,K1,K1,K1,K1,K1]
def billingref23_Value_l1b : AC := (.seq (.seq (.reg [
 iM 5 4,
 iM 6 0,
 iO 7 (.len true (.t 6) none),
 iB 8 .lss 5 7,
 iM 9 8,
 iG 10 (.mv (.t 4)) 9 true,
 iG 11 (.bin .lss (.t 10) (.c (.int .i64 16))) 9 true,
 iO 12 (.pick (.t 9) (.t 11) (.c (.bool false)))])
 (.cond (.t 12) .skip
 (.exit 0)))
 (.seq (.blk 1 (.reg [
 iM 15 3,
 iO 16 (.bin .mul (.c (.int .i64 10)) (.t 15)),
 iM 17 0,
 iM 18 4,
 iO 19 (.idx (.t 17) (.t 18) none 1 false),
 iO 20 (.bin .sub (.t 19) (.c (.int .u8 48))),
 iO 21 (.cvi .i64 (.t 20)),
 iB 22 .add 16 21,
 iM 3 22]))
 (.reg [
 iM 13 4,
 iI 14 .add 13 1,
 iM 4 14])))
@[go_sem] def mk_30 : List Bool := [K0,K0,K0,K0,K0,K1,K1,K1,K1,K1,K1,K1,K1,K1,K1,K1,K1,K1,K1,K1,K1,K1,K1]
def billingref23_Value_l1 : AC := .pre mk_30 billingref23_Value_l1b
@[go_sem] theorem billingref23_Value_l1_go : LoopRule billingref23_Value_l1 billingref23_Value_l1b mk_30 := loopRule
@[go_sem] theorem billingref23_Value_l1_lp : LpRule billingref23_Value_l1 billingref23_Value_l1b mk_30 := lpRule
def billingref23_Value_k1b : AC := (.seq (.reg [
 iM 23 3,
 iM 2 23])
 .ret)
def billingref23_Value_k1 : AC := .pre mk_29 billingref23_Value_k1b
def a_billingref23_Value : AF := ⟨24, (.seq (.reg [
 iK 2 (.int .i64 0)])
 (.seq (.reg [
 iK 3 (.int .i64 0)])
 (.seq (.seq (.reg [
 iK 4 (.int .i64 0)])
 (.blk 0 (.pre mk_28 (.loop billingref23_Value_l1))))
 billingref23_Value_k1))), [.tmp 2]⟩
@[go_sem] def mk_31 : List Bool := [K0,K0,K0,K0,K1,K1,K1]
@[go_sem] def mk_32 : List Bool := [K0,K0,K1,K1,K1,K1,K1,K1,K1,K1,K1,K1,K1,K1,K1,K1,K1,K1,K1,K1,K1,K1,K1,K1,K1,K1,K1,K1,K1]
def lexer_Quote_l1b : AC := (.seq (.seq (.reg [
 iM 7 3,
 iM 8 0,
 iO 9 (.len true (.t 8) none),
 iB 10 .lss 7 9])
 (.cond (.t 10) .skip
 (.exit 0)))
 (.seq (.blk 1 (.seq (.reg [
 iM 13 0,
 iM 14 3,
 iO 15 (.idx (.t 13) (.t 14) none 1 false),
 iO 16 (.bin .lss (.t 15) (.c (.int .u8 32))),
 iM 17 16,
 iG 18 (.mv (.t 0)) 17 false,
 iG 19 (.mv (.t 3)) 17 false,
 iG 20 (.idx (.t 18) (.t 19) none 1 false) 17 false,
 iG 21 (.bin .gtr (.t 20) (.c (.int .u8 126))) 17 false,
 iO 22 (.pick (.t 17) (.c (.bool true)) (.t 21)),
 iM 23 22,
 iG 24 (.mv (.t 0)) 23 false,
 iG 25 (.mv (.t 3)) 23 false,
 iG 26 (.idx (.t 24) (.t 25) none 1 false) 23 false,
 iG 27 (.bin .eql (.t 26) (.c (.int .u8 34))) 23 false,
 iO 28 (.pick (.t 23) (.c (.bool true)) (.t 27))])
 (.cond (.t 28) (.seq (.reg [
 iK 2 (.str [])])
 .ret)
 .skip)))
 (.reg [
 iM 11 3,
 iI 12 .add 11 1,
 iM 3 12])))
@[go_sem] def mk_33 : List Bool := [K0,K0,K1,K0,K0,K0,K0,K1,K1,K1,K1,K1,K1,K1,K1,K1,K1,K1,K1,K1,K1,K1,K1,K1,K1,K1,K1,K1,K1]
def lexer_Quote_l1 : AC := .pre mk_33 lexer_Quote_l1b
@[go_sem] theorem lexer_Quote_l1_go : LoopRule lexer_Quote_l1 lexer_Quote_l1b mk_33 := loopRule
@[go_sem] theorem lexer_Quote_l1_lp : LpRule lexer_Quote_l1 lexer_Quote_l1b mk_33 := lpRule
def lexer_Quote_k1b : AC := (.seq (.reg [
 iM 29 0,
 iO 30 (.bin .add (.c (.str [34])) (.t 29)),
 iO 31 (.bin .add (.t 30) (.c (.str [34]))),
 iM 2 31])
 .ret)
def lexer_Quote_k1 : AC := .pre mk_32 lexer_Quote_k1b
def a_lexer_Quote : AF := ⟨32, (.seq (.reg [
 iK 2 (.str [])])
 (.seq (.seq (.reg [
 iM 4 0,
 iO 5 (.len true (.t 4) none),
 iI 6 .gtr 5 200])
 (.cond (.t 6) (.seq (.reg [
 iK 2 (.str [])])
 .ret)
 .skip))
 (.seq (.seq (.reg [
 iK 3 (.int .i64 0)])
 (.blk 0 (.pre mk_31 (.loop lexer_Quote_l1))))
 lexer_Quote_k1))), [.tmp 2]⟩
def a_lexer_Keyword : AF := ⟨48, (.seq (.reg [
 iK 2 (.bool false)])
 (.seq (.seq (.reg [
 iM 3 0])
 (.blk 0 (.seq (.seq (.reg [
 iO 5 (.bin .eql (.t 3) (.c (.str [116, 97, 114, 105, 102, 102]))),
 iM 4 5])
 (.cond (.t 4) .skip
 (.seq (.reg [
 iO 6 (.bin .eql (.t 3) (.c (.str [102, 114, 111, 109]))),
 iM 4 6])
 (.cond (.t 4) .skip
 (.seq (.reg [
 iO 7 (.bin .eql (.t 3) (.c (.str [115, 112, 108, 105, 116]))),
 iM 4 7])
 (.cond (.t 4) .skip
 (.seq (.reg [
 iO 8 (.bin .eql (.t 3) (.c (.str [122, 111, 110, 101]))),
 iM 4 8])
 (.cond (.t 4) .skip
 (.seq (.reg [
 iO 9 (.bin .eql (.t 3) (.c (.str [98, 97, 110, 100]))),
 iM 4 9])
 (.cond (.t 4) .skip
 (.seq (.reg [
 iO 10 (.bin .eql (.t 3) (.c (.str [111, 116, 104, 101, 114, 119, 105, 115, 101]))),
 iM 4 10])
 (.cond (.t 4) .skip
 (.seq (.reg [
 iO 11 (.bin .eql (.t 3) (.c (.str [114, 97, 116, 101]))),
 iM 4 11])
 (.cond (.t 4) .skip
 (.seq (.reg [
 iO 12 (.bin .eql (.t 3) (.c (.str [116, 111]))),
 iM 4 12])
 (.cond (.t 4) .skip
 (.seq (.reg [
 iO 13 (.bin .eql (.t 3) (.c (.str [97, 110, 121]))),
 iM 4 13])
 (.cond (.t 4) .skip
 (.seq (.reg [
 iO 14 (.bin .eql (.t 3) (.c (.str [105, 110]))),
 iM 4 14])
 (.cond (.t 4) .skip
 (.seq (.reg [
 iO 15 (.bin .eql (.t 3) (.c (.str [115, 101, 116, 117, 112]))),
 iM 4 15])
 (.cond (.t 4) .skip
 (.seq (.reg [
 iO 16 (.bin .eql (.t 3) (.c (.str [117, 112, 116, 111]))),
 iM 4 16])
 (.cond (.t 4) .skip
 (.seq (.reg [
 iO 17 (.bin .eql (.t 3) (.c (.str [112, 101, 114]))),
 iM 4 17])
 (.cond (.t 4) .skip
 (.reg [
 iO 18 (.bin .eql (.t 3) (.c (.str [97, 116]))),
 iM 4 18])))))))))))))))))))))))))))
 (.cond (.t 4) (.seq (.reg [
 iK 2 (.bool true)])
 .ret)
 (.seq (.seq (.reg [
 iO 20 (.bin .eql (.t 3) (.c (.str [100, 105, 115, 99, 111, 117, 110, 116]))),
 iM 19 20])
 (.cond (.t 19) .skip
 (.seq (.reg [
 iO 21 (.bin .eql (.t 3) (.c (.str [112, 111, 105, 110, 116, 115]))),
 iM 19 21])
 (.cond (.t 19) .skip
 (.seq (.reg [
 iO 22 (.bin .eql (.t 3) (.c (.str [119, 104, 101, 110]))),
 iM 19 22])
 (.cond (.t 19) .skip
 (.seq (.reg [
 iO 23 (.bin .eql (.t 3) (.c (.str [97, 110, 100]))),
 iM 19 23])
 (.cond (.t 19) .skip
 (.seq (.reg [
 iO 24 (.bin .eql (.t 3) (.c (.str [111, 114]))),
 iM 19 24])
 (.cond (.t 19) .skip
 (.reg [
 iO 25 (.bin .eql (.t 3) (.c (.str [110, 111, 116]))),
 iM 19 25])))))))))))
 (.cond (.t 19) (.seq (.reg [
 iK 2 (.bool true)])
 .ret)
 (.seq (.seq (.reg [
 iO 27 (.bin .eql (.t 3) (.c (.str [109, 111, 110]))),
 iM 26 27])
 (.cond (.t 26) .skip
 (.seq (.reg [
 iO 28 (.bin .eql (.t 3) (.c (.str [116, 117, 101]))),
 iM 26 28])
 (.cond (.t 26) .skip
 (.seq (.reg [
 iO 29 (.bin .eql (.t 3) (.c (.str [119, 101, 100]))),
 iM 26 29])
 (.cond (.t 26) .skip
 (.seq (.reg [
 iO 30 (.bin .eql (.t 3) (.c (.str [116, 104, 117]))),
 iM 26 30])
 (.cond (.t 26) .skip
 (.seq (.reg [
 iO 31 (.bin .eql (.t 3) (.c (.str [102, 114, 105]))),
 iM 26 31])
 (.cond (.t 26) .skip
 (.seq (.reg [
 iO 32 (.bin .eql (.t 3) (.c (.str [115, 97, 116]))),
 iM 26 32])
 (.cond (.t 26) .skip
 (.seq (.reg [
 iO 33 (.bin .eql (.t 3) (.c (.str [115, 117, 110]))),
 iM 26 33])
 (.cond (.t 26) .skip
 (.reg [
 iO 34 (.bin .eql (.t 3) (.c (.str [104, 111, 108, 105, 100, 97, 121]))),
 iM 26 34])))))))))))))))
 (.cond (.t 26) (.seq (.reg [
 iK 2 (.bool true)])
 .ret)
 (.seq (.seq (.reg [
 iO 36 (.bin .eql (.t 3) (.c (.str [118, 111, 105, 99, 101]))),
 iM 35 36])
 (.cond (.t 35) .skip
 (.seq (.reg [
 iO 37 (.bin .eql (.t 3) (.c (.str [116, 101, 120, 116]))),
 iM 35 37])
 (.cond (.t 35) .skip
 (.seq (.reg [
 iO 38 (.bin .eql (.t 3) (.c (.str [100, 97, 116, 97]))),
 iM 35 38])
 (.cond (.t 35) .skip
 (.reg [
 iO 39 (.bin .eql (.t 3) (.c (.str [99, 111, 110, 116, 101, 110, 116]))),
 iM 35 39])))))))
 (.cond (.t 35) (.seq (.reg [
 iK 2 (.bool true)])
 .ret)
 (.seq (.seq (.reg [
 iO 41 (.bin .eql (.t 3) (.c (.str [107, 105, 110, 100]))),
 iM 40 41])
 (.cond (.t 40) .skip
 (.seq (.reg [
 iO 42 (.bin .eql (.t 3) (.c (.str [117, 110, 105, 116, 115]))),
 iM 40 42])
 (.cond (.t 40) .skip
 (.seq (.reg [
 iO 43 (.bin .eql (.t 3) (.c (.str [119, 101, 101, 107, 100, 97, 121]))),
 iM 40 43])
 (.cond (.t 40) .skip
 (.seq (.reg [
 iO 44 (.bin .eql (.t 3) (.c (.str [109, 105, 110, 117, 116, 101]))),
 iM 40 44])
 (.cond (.t 40) .skip
 (.seq (.reg [
 iO 45 (.bin .eql (.t 3) (.c (.str [116, 111, 116, 97, 108]))),
 iM 40 45])
 (.cond (.t 40) .skip
 (.seq (.reg [
 iO 46 (.bin .eql (.t 3) (.c (.str [115, 112, 101, 110, 116]))),
 iM 40 46])
 (.cond (.t 40) .skip
 (.reg [
 iO 47 (.bin .eql (.t 3) (.c (.str [102, 97, 109, 105, 108, 121]))),
 iM 40 47])))))))))))))
 (.cond (.t 40) (.seq (.reg [
 iK 2 (.bool true)])
 .ret)
 .skip))))))))))))
 (.seq (.reg [
 iK 2 (.bool false)])
 .ret))), [.tmp 2]⟩
def a_billingref23_Keyword : AF := ⟨6, (.seq (.reg [
 iK 2 (.bool false)])
 (.seq (.reg [
 iO 3 (.bsl 1 39 (.str []) [(0, (.c (.str [116, 97, 114, 105, 102, 102]))), (1, (.c (.str [102, 114, 111, 109]))), (2, (.c (.str [115, 112, 108, 105, 116]))), (3, (.c (.str [122, 111, 110, 101]))), (4, (.c (.str [98, 97, 110, 100]))), (5, (.c (.str [111, 116, 104, 101, 114, 119, 105, 115, 101]))), (6, (.c (.str [114, 97, 116, 101]))), (7, (.c (.str [116, 111]))), (8, (.c (.str [97, 110, 121]))), (9, (.c (.str [105, 110]))), (10, (.c (.str [115, 101, 116, 117, 112]))), (11, (.c (.str [117, 112, 116, 111]))), (12, (.c (.str [112, 101, 114]))), (13, (.c (.str [97, 116]))), (14, (.c (.str [100, 105, 115, 99, 111, 117, 110, 116]))), (15, (.c (.str [112, 111, 105, 110, 116, 115]))), (16, (.c (.str [119, 104, 101, 110]))), (17, (.c (.str [97, 110, 100]))), (18, (.c (.str [111, 114]))), (19, (.c (.str [110, 111, 116]))), (20, (.c (.str [109, 111, 110]))), (21, (.c (.str [116, 117, 101]))), (22, (.c (.str [119, 101, 100]))), (23, (.c (.str [116, 104, 117]))), (24, (.c (.str [102, 114, 105]))), (25, (.c (.str [115, 97, 116]))), (26, (.c (.str [115, 117, 110]))), (27, (.c (.str [104, 111, 108, 105, 100, 97, 121]))), (28, (.c (.str [118, 111, 105, 99, 101]))), (29, (.c (.str [116, 101, 120, 116]))), (30, (.c (.str [100, 97, 116, 97]))), (31, (.c (.str [99, 111, 110, 116, 101, 110, 116]))), (32, (.c (.str [107, 105, 110, 100]))), (33, (.c (.str [117, 110, 105, 116, 115]))), (34, (.c (.str [119, 101, 101, 107, 100, 97, 121]))), (35, (.c (.str [109, 105, 110, 117, 116, 101]))), (36, (.c (.str [116, 111, 116, 97, 108]))), (37, (.c (.str [115, 112, 101, 110, 116]))), (38, (.c (.str [102, 97, 109, 105, 108, 121])))]),
 iM 4 0,
 iS 3,
 iO 5 (.call n_billingref23_Has [((.t 3), false), ((.t 4), false)] false),
 iM 2 5])
 .ret)), [.tmp 2]⟩
@[go_sem] def mk_34 : List Bool := [K0,K0,K1,K1,K1,K1,K1,K1,K1,K1,K1,K1,K1,K1,K1]
def billingref23_Quote_l1b : AC := (.seq (.seq (.reg [
 iM 4 3,
 iM 5 0,
 iO 6 (.len true (.t 5) none),
 iB 7 .lss 4 6])
 (.cond (.t 7) .skip
 (.exit 0)))
 (.seq (.blk 1 (.seq (.reg [
 iM 10 0,
 iM 11 3,
 iO 12 (.idx (.t 10) (.t 11) none 1 false),
 iO 13 (.call n_billingref23_inText [((.t 12), false)] false),
 iO 14 (.un .not (.t 13))])
 (.cond (.t 14) (.seq (.reg [
 iK 2 (.str [])])
 .ret)
 .skip)))
 (.reg [
 iM 8 3,
 iI 9 .add 8 1,
 iM 3 9])))
@[go_sem] def mk_35 : List Bool := [K0,K0,K1,K0,K1,K1,K1,K1,K1,K1,K1,K1,K1,K1,K1]
def billingref23_Quote_l1 : AC := .pre mk_35 billingref23_Quote_l1b
@[go_sem] theorem billingref23_Quote_l1_go : LoopRule billingref23_Quote_l1 billingref23_Quote_l1b mk_35 := loopRule
@[go_sem] theorem billingref23_Quote_l1_lp : LpRule billingref23_Quote_l1 billingref23_Quote_l1b mk_35 := lpRule
def billingref23_Quote_k1b : AC := (.seq (.seq (.reg [
 iM 15 0,
 iO 16 (.len true (.t 15) none),
 iI 17 .gtr 16 200])
 (.cond (.t 17) (.seq (.reg [
 iK 2 (.str [])])
 .ret)
 .skip))
 (.seq (.reg [
 iM 18 0,
 iO 19 (.bin .add (.c (.str [34])) (.t 18)),
 iO 20 (.bin .add (.t 19) (.c (.str [34]))),
 iM 2 20])
 .ret))
def billingref23_Quote_k1 : AC := .pre mk_34 billingref23_Quote_k1b
def a_billingref23_Quote : AF := ⟨21, (.seq (.reg [
 iK 2 (.str [])])
 (.seq (.seq (.reg [
 iK 3 (.int .i64 0)])
 (.blk 0 (.loop billingref23_Quote_l1)))
 billingref23_Quote_k1)), [.tmp 2]⟩
@[go_sem] def mk_36 : List Bool := [K1,K0,K1,K1,K0,K0,K0,K0,K0,K0,K1,K1,K1,K1,K1]
@[go_sem] def mk_37 : List Bool := [K0,K1,K0,K0,K0,K0,K0,K0,K1,K1,K0,K0,K0,K0,K0,K0,K0,K0,K0,K0,K0,K0,K0,K0,K0,K0,K0,K0,K0,K0,K0,K0,K0,K0,K0,K0,K0,K0,K0,K0,K0,K0,K0,K0,K0,K0,K0,K0,K0,K0,K0,K0,K0,K0,K0,K0,K0,K0,K0,K0,K0,K0,K0,K0,K0,K0,K0,K0,K0,K0,K0,K1,K1,K1,K1,K1,K1,K1,K1,K1,K1,K1,K1,K1,K1,K1,K1,K1,K1,K1,K1,K1,K1,K1,K1,K1,K1,K1,K1]
@[go_sem] def mk_38 : List Bool := [K0,K0,K0,K0,K0,K0,K0,K1,K0,K0,K0,K0,K0,K0,K0,K0,K0,K0,K0,K0,K0,K0,K0,K0,K0,K0,K0,K0,K0,K0,K0,K0,K0,K0,K0,K0,K0,K0,K0,K0,K0,K0,K0,K0,K0,K0,K0,K0,K0,K0,K0,K0,K0,K0,K0,K0,K1,K1,K1,K1,K1,K1,K1,K1,K1,K1,K1,K1,K1,K1,K1]
@[go_sem] def mk_39 : List Bool := [K0,K0,K0,K0,K0,K0,K1,K0,K0,K0,K0,K0,K0,K0,K0,K0,K0,K0,K0,K0,K0,K0,K0,K0,K0,K0,K0,K0,K0,K0,K0,K0,K0,K0,K0,K0,K0,K0,K0,K0,K0,K1,K1,K1,K1,K1,K1,K1,K1,K1,K1,K1,K1,K1,K1,K1]
@[go_sem] def mk_40 : List Bool := [K1,K0,K1,K1,K0,K1,K0,K0,K0,K0,K1,K1,K1,K1,K1,K1,K1,K1,K1,K1,K1,K1,K1,K1,K1,K1,K1,K1,K1,K1,K1,K1,K1,K1,K1,K1,K1,K1,K1,K1,K1]
def billingref25_Tariff_l1b : AC := (.seq (.seq (.reg [
 iM 15 5,
 iF 16 1 3,
 iL 17 16,
 iO 18 (.len false (.t 17) none),
 iB 19 .lss 15 18])
 (.cond (.t 19) .skip
 (.exit 0)))
 (.seq (.blk 1 (.dreg [
 iC 22 4,
 iO 23 (.bin .add (.t 22) (.c (.str [122, 111, 110, 101, 32]))),
 iF 24 1 3,
 iL 25 24,
 iC 26 5,
 iO 27 (.ia (.t 25) (.t 26) 2 none none),
 iF 28 27 0,
 iL 29 28,
 iB 30 .add 23 29,
 iO 31 (.bin .add (.t 30) (.c (.str [32]))),
 iF 32 1 3,
 iL 33 32,
 iC 34 5,
 iO 35 (.ia (.t 33) (.t 34) 2 none none),
 iF 36 35 1,
 iL 37 36,
 iO 38 (.call n_billingref25_Joined [((.t 37), false)] false),
 iB 39 .add 31 38,
 iO 40 (.bin .add (.t 39) (.c (.str [32, 59, 10]))),
 iC 4 40]))
 (.reg [
 iM 20 5,
 iI 21 .add 20 1,
 iM 5 21])))
@[go_sem] def mk_41 : List Bool := [K0,K0,K0,K0,K0,K0,K0,K0,K0,K0,K0,K0,K0,K0,K0,K1,K1,K1,K1,K1,K1,K1,K1,K1,K1,K1,K1,K1,K1,K1,K1,K1,K1,K1,K1,K1,K1,K1,K1,K1,K1]
def billingref25_Tariff_l1 : AC := .pre mk_41 billingref25_Tariff_l1b
@[go_sem] theorem billingref25_Tariff_l1_go : LoopRule billingref25_Tariff_l1 billingref25_Tariff_l1b mk_41 := loopRule
@[go_sem] theorem billingref25_Tariff_l1_lp : LpRule billingref25_Tariff_l1 billingref25_Tariff_l1b mk_41 := lpRule
def billingref25_Tariff_l2b : AC := (.seq (.seq (.reg [
 iM 41 6,
 iF 42 1 4,
 iL 43 42,
 iO 44 (.len false (.t 43) none),
 iB 45 .lss 41 44])
 (.cond (.t 45) .skip
 (.exit 2)))
 (.seq (.blk 3 (.reg [
 iM 48 4,
 iF 49 1 4,
 iL 50 49,
 iM 51 6,
 iO 52 (.ia (.t 50) (.t 51) 2 none none),
 iO 53 (.ld (.t 52) (some 2) false none),
 iO 54 (.call n_billingref25_bandLine [((.t 53), false)] false),
 iB 55 .add 48 54,
 iM 4 55]))
 (.reg [
 iM 46 6,
 iI 47 .add 46 1,
 iM 6 47])))
@[go_sem] def mk_42 : List Bool := [K0,K0,K0,K0,K0,K0,K0,K0,K0,K0,K0,K0,K0,K0,K0,K0,K0,K0,K0,K0,K0,K0,K0,K0,K0,K0,K0,K0,K0,K0,K0,K0,K0,K0,K0,K0,K0,K0,K0,K0,K0,K1,K1,K1,K1,K1,K1,K1,K1,K1,K1,K1,K1,K1,K1,K1]
def billingref25_Tariff_l2 : AC := .pre mk_42 billingref25_Tariff_l2b
@[go_sem] theorem billingref25_Tariff_l2_go : LoopRule billingref25_Tariff_l2 billingref25_Tariff_l2b mk_42 := loopRule
@[go_sem] theorem billingref25_Tariff_l2_lp : LpRule billingref25_Tariff_l2 billingref25_Tariff_l2b mk_42 := lpRule
def billingref25_Tariff_l3b : AC := (.seq (.seq (.reg [
 iM 56 7,
 iF 57 1 5,
 iL 58 57,
 iO 59 (.len false (.t 58) none),
 iB 60 .lss 56 59])
 (.cond (.t 60) .skip
 (.exit 4)))
 (.seq (.blk 5 (.reg [
 iM 63 4,
 iF 64 1 5,
 iL 65 64,
 iM 66 7,
 iO 67 (.ia (.t 65) (.t 66) 5 none none),
 iO 68 (.ld (.t 67) (some 5) false none),
 iO 69 (.call n_billingref25_rateLine [((.t 68), false)] false),
 iB 70 .add 63 69,
 iM 4 70]))
 (.reg [
 iM 61 7,
 iI 62 .add 61 1,
 iM 7 62])))
@[go_sem] def mk_43 : List Bool := [K0,K0,K0,K0,K0,K0,K0,K0,K0,K0,K0,K0,K0,K0,K0,K0,K0,K0,K0,K0,K0,K0,K0,K0,K0,K0,K0,K0,K0,K0,K0,K0,K0,K0,K0,K0,K0,K0,K0,K0,K0,K0,K0,K0,K0,K0,K0,K0,K0,K0,K0,K0,K0,K0,K0,K0,K1,K1,K1,K1,K1,K1,K1,K1,K1,K1,K1,K1,K1,K1,K1]
def billingref25_Tariff_l3 : AC := .pre mk_43 billingref25_Tariff_l3b
@[go_sem] theorem billingref25_Tariff_l3_go : LoopRule billingref25_Tariff_l3 billingref25_Tariff_l3b mk_43 := loopRule
@[go_sem] theorem billingref25_Tariff_l3_lp : LpRule billingref25_Tariff_l3 billingref25_Tariff_l3b mk_43 := lpRule
def billingref25_Tariff_l4b : AC := (.seq (.seq (.reg [
 iM 71 8,
 iF 72 1 6,
 iL 73 72,
 iO 74 (.len false (.t 73) none),
 iB 75 .lss 71 74])
 (.cond (.t 75) .skip
 (.exit 6)))
 (.seq (.blk 7 (.seq (.reg [
 iF 78 1 6,
 iL 79 78,
 iM 80 8,
 iO 81 (.ia (.t 79) (.t 80) 6 none none),
 iO 82 (.ld (.t 81) (some 6) false none),
 iO 9 (.newbox [(.str []), (.int .i64 0), (.int .i64 0), (.str []), (.sl false 4 []), (.int .i64 0)]),
 iN (.st (.t 9) (.t 82) 6 false (some 9))])
 (.dreg [
 iC 83 4,
 iO 84 (.bin .add (.t 83) (.c (.str [100, 105, 115, 99, 111, 117, 110, 116, 32]))),
 iO 85 (.fa (.t 9) 0 (some 9)),
 iO 86 (.ld (.t 85) none false (some 9)),
 iB 87 .add 84 86,
 iO 88 (.bin .add (.t 87) (.c (.str [32]))),
 iO 89 (.fa (.t 9) 5 (some 9)),
 iO 90 (.ld (.t 89) none false (some 9)),
 iO 91 (.call n_billingref25_Decimal [((.t 90), false)] false),
 iB 92 .add 88 91,
 iO 93 (.bin .add (.t 92) (.c (.str [32, 112, 111, 105, 110, 116, 115, 32, 119, 104, 101, 110, 32]))),
 iO 94 (.fa (.t 9) 1 (some 9)),
 iO 95 (.ld (.t 94) (some 4) false (some 9)),
 iO 96 (.call n_billingref25_show [((.t 95), false)] false),
 iB 97 .add 93 96,
 iO 98 (.bin .add (.t 97) (.c (.str [32, 59, 10]))),
 iC 4 98])))
 (.reg [
 iM 76 8,
 iI 77 .add 76 1,
 iM 8 77])))
@[go_sem] def mk_44 : List Bool := [K0,K0,K0,K0,K0,K0,K0,K0,K0,K1,K0,K0,K0,K0,K0,K0,K0,K0,K0,K0,K0,K0,K0,K0,K0,K0,K0,K0,K0,K0,K0,K0,K0,K0,K0,K0,K0,K0,K0,K0,K0,K0,K0,K0,K0,K0,K0,K0,K0,K0,K0,K0,K0,K0,K0,K0,K0,K0,K0,K0,K0,K0,K0,K0,K0,K0,K0,K0,K0,K0,K0,K1,K1,K1,K1,K1,K1,K1,K1,K1,K1,K1,K1,K1,K1,K1,K1,K1,K1,K1,K1,K1,K1,K1,K1,K1,K1,K1,K1]
def billingref25_Tariff_l4 : AC := .pre mk_44 billingref25_Tariff_l4b
@[go_sem] theorem billingref25_Tariff_l4_go : LoopRule billingref25_Tariff_l4 billingref25_Tariff_l4b mk_44 := loopRule
@[go_sem] theorem billingref25_Tariff_l4_lp : LpRule billingref25_Tariff_l4 billingref25_Tariff_l4b mk_44 := lpRule
def billingref25_Tariff_k1b : AC := (.seq (.seq (.reg [
 iM 99 4,
 iO 100 (.len true (.t 99) none),
 iI 101 .gtr 100 65536])
 (.cond (.t 101) (.seq (.reg [
 iK 2 (.str []),
 iK 3 (.int .i64 5)])
 .ret)
 .skip))
 (.seq (.reg [
 iM 102 4,
 iM 2 102,
 iK 3 (.int .i64 0)])
 .ret))
def billingref25_Tariff_k1 : AC := .pre mk_37 billingref25_Tariff_k1b
def billingref25_Tariff_k2b : AC := (.seq (.seq (.reg [
 iK 8 (.int .i64 0)])
 (.blk 6 (.loop billingref25_Tariff_l4)))
 billingref25_Tariff_k1)
def billingref25_Tariff_k2 : AC := .pre mk_38 billingref25_Tariff_k2b
def billingref25_Tariff_k3b : AC := (.seq (.seq (.reg [
 iK 7 (.int .i64 0)])
 (.blk 4 (.loop billingref25_Tariff_l3)))
 billingref25_Tariff_k2)
def billingref25_Tariff_k3 : AC := .pre mk_39 billingref25_Tariff_k3b
def billingref25_Tariff_k4b : AC := (.seq (.seq (.reg [
 iK 6 (.int .i64 0)])
 (.blk 2 (.loop billingref25_Tariff_l2)))
 billingref25_Tariff_k3)
def billingref25_Tariff_k4 : AC := .pre mk_40 billingref25_Tariff_k4b
def a_billingref25_Tariff : AF := ⟨103, (.seq (.reg [
 iO 1 (.boxr (.t 0)),
 iK 2 (.str []),
 iK 3 (.int .i64 0)])
 (.seq (.seq (.reg [
 iO 10 (.ld (.t 1) (some 7) false none),
 iO 11 (.call n_billingref25_Whole [((.t 10), false)] false),
 iO 12 (.un .not (.t 11))])
 (.cond (.t 12) (.seq (.reg [
 iK 2 (.str []),
 iK 3 (.int .i64 8)])
 .ret)
 .skip))
 (.seq (.reg [
 iO 13 (.ld (.t 1) (some 7) false none),
 iO 14 (.call n_billingref25_head [((.t 13), false)] false),
 iM 4 14])
 (.seq (.seq (.reg [
 iK 5 (.int .i64 0)])
 (.blk 0 (.pre mk_36 (.loop billingref25_Tariff_l1))))
 billingref25_Tariff_k4)))), [.tmp 2, .tmp 3]⟩
@[go_sem] def mk_45 : List Bool := [K1]
@[go_sem] def mk_46 : List Bool := [K1,K0,K1,K1,K1,K1,K1,K1,K1,K1,K1,K1,K1,K1,K1,K1,K1,K1]
def billingref25_SmallExpr_l1b : AC := (.seq (.seq (.reg [
 iM 4 3,
 iF 5 1 3,
 iL 6 5,
 iO 7 (.len false (.t 6) none),
 iB 8 .lss 4 7])
 (.cond (.t 8) .skip
 (.exit 0)))
 (.seq (.blk 1 (.seq (.reg [
 iF 11 1 3,
 iL 12 11,
 iM 13 3,
 iO 14 (.ia (.t 12) (.t 13) 4 none none),
 iO 15 (.ld (.t 14) (some 4) false none),
 iO 16 (.call n_billingref25_SmallExpr [((.t 15), false)] false),
 iO 17 (.un .not (.t 16))])
 (.cond (.t 17) (.seq (.reg [
 iK 2 (.bool false)])
 .ret)
 .skip)))
 (.reg [
 iM 9 3,
 iI 10 .add 9 1,
 iM 3 10])))
@[go_sem] def mk_47 : List Bool := [K0,K0,K1,K0,K1,K1,K1,K1,K1,K1,K1,K1,K1,K1,K1,K1,K1,K1]
def billingref25_SmallExpr_l1 : AC := .pre mk_47 billingref25_SmallExpr_l1b
@[go_sem] theorem billingref25_SmallExpr_l1_go : LoopRule billingref25_SmallExpr_l1 billingref25_SmallExpr_l1b mk_47 := loopRule
@[go_sem] theorem billingref25_SmallExpr_l1_lp : LpRule billingref25_SmallExpr_l1 billingref25_SmallExpr_l1b mk_47 := lpRule
def billingref25_SmallExpr_k1b : AC := (.seq (.reg [
 iF 18 1 2,
 iL 19 18,
 iO 20 (.len true (.t 19) none),
 iI 21 .leq 20 300,
 iM 22 21,
 iG 23 (.fa (.t 1) 3 none) 22 true,
 iG 24 (.ld (.t 23) none false none) 22 true,
 iG 25 (.len false (.t 24) none) 22 true,
 iG 26 (.bin .leq (.t 25) (.c (.int .i64 8))) 22 true,
 iO 27 (.pick (.t 22) (.t 26) (.c (.bool false))),
 iM 28 27,
 iG 29 (.ld (.t 1) (some 4) false none) 28 true,
 iG 30 (.call n_billingref25_Count [((.t 29), false)] false) 28 true,
 iG 31 (.bin .leq (.t 30) (.c (.int .i64 120))) 28 true,
 iO 32 (.pick (.t 28) (.t 31) (.c (.bool false))),
 iM 2 32])
 .ret)
def billingref25_SmallExpr_k1 : AC := .pre mk_46 billingref25_SmallExpr_k1b
def a_billingref25_SmallExpr : AF := ⟨33, (.seq (.reg [
 iO 1 (.boxr (.t 0)),
 iK 2 (.bool false)])
 (.seq (.seq (.reg [
 iK 3 (.int .i64 0)])
 (.blk 0 (.pre mk_45 (.loop billingref25_SmallExpr_l1))))
 billingref25_SmallExpr_k1)), [.tmp 2]⟩
def a_billingref25_Expr : AF := ⟨14, (.seq (.reg [
 iO 1 (.boxr (.t 0)),
 iK 2 (.str []),
 iK 3 (.int .i64 0)])
 (.seq (.seq (.reg [
 iO 5 (.ld (.t 1) (some 4) false none),
 iO 6 (.call n_billingref25_Printable [((.t 5), false)] false),
 iO 7 (.un .not (.t 6))])
 (.cond (.t 7) (.seq (.reg [
 iK 2 (.str []),
 iK 3 (.int .i64 8)])
 .ret)
 .skip))
 (.seq (.reg [
 iO 8 (.ld (.t 1) (some 4) false none),
 iO 9 (.call n_billingref25_show [((.t 8), false)] false),
 iM 4 9])
 (.seq (.seq (.reg [
 iM 10 4,
 iO 11 (.len true (.t 10) none),
 iI 12 .gtr 11 65536])
 (.cond (.t 12) (.seq (.reg [
 iK 2 (.str []),
 iK 3 (.int .i64 5)])
 .ret)
 .skip))
 (.seq (.reg [
 iM 13 4,
 iM 2 13,
 iK 3 (.int .i64 0)])
 .ret))))), [.tmp 2, .tmp 3]⟩
@[go_sem] def mk_48 : List Bool := [K1,K0,K0,K0,K0,K0,K0,K0,K0,K0,K0,K1,K1,K1,K1,K1,K1,K1,K1,K1,K1,K1,K1,K1,K1,K1]
@[go_sem] def mk_49 : List Bool := [K0,K0,K0,K0,K0,K0,K0,K0,K0,K0,K0,K0,K0,K0,K0,K0,K0,K0,K0,K0,K0,K0,K0,K0,K0,K0,K0,K0,K0,K0,K0,K0,K0,K0,K0,K0,K0,K0,K0,K0,K0,K0,K0,K1]
@[go_sem] def mk_50 : List Bool := [K0,K0,K0,K0,K0,K0,K0,K0,K0,K0,K0,K0,K0,K0,K0,K0,K0,K0,K0,K0,K0,K0,K0,K0,K0,K0,K0,K0,K0,K0,K0,K0,K0,K0,K0,K0,K0,K0,K0,K0,K0,K0,K0,K0,K0,K0,K0,K0,K0,K0,K0,K0,K0,K0,K0,K0,K0,K0,K0,K0,K0,K1]
@[go_sem] def mk_51 : List Bool := [K0,K1,K0,K0,K0,K0,K0,K0,K0,K0,K0,K0,K0,K0,K0,K0,K0,K0,K0,K0,K0,K0,K0,K0,K0,K0,K0,K0,K0,K0,K0,K0,K0,K0,K0,K0,K0,K0,K0,K0,K0,K0,K0,K0,K0,K0,K0,K0,K0,K0,K0,K0,K0,K0,K0,K0,K0,K0,K0,K0,K0,K0,K0,K0,K0,K0,K0,K0,K0,K0,K0,K0,K1]
@[go_sem] def mk_52 : List Bool := [K0,K1,K1,K0,K0,K0,K0,K0,K0,K0,K1,K0,K0,K0,K0,K0,K0,K0,K0,K0,K0,K0,K0,K0,K0,K0,K0,K0,K0,K0,K0,K0,K0,K0,K0,K0,K0,K0,K0,K0,K0,K0,K0,K0,K0,K0,K0,K0,K0,K0,K0,K0,K0,K0,K0,K0,K0,K0,K0,K0,K0,K0,K0,K0,K0,K0,K0,K0,K0,K0,K0,K0,K1,K1,K1,K1,K1,K1,K1,K1,K1,K1,K1,K1,K1,K1,K1,K1,K1,K1,K1,K1,K1,K1,K1,K1]
@[go_sem] def mk_53 : List Bool := [K0,K0,K1,K0,K0,K0,K0,K0,K1,K0,K0,K0,K0,K0,K0,K0,K0,K0,K0,K0,K0,K0,K0,K0,K0,K0,K0,K0,K0,K0,K0,K0,K0,K0,K0,K0,K0,K0,K0,K0,K0,K0,K0,K0,K0,K0,K0,K0,K0,K0,K0,K0,K0,K0,K0,K0,K0,K0,K0,K0,K0,K1,K1,K1,K1,K1,K1,K1,K1,K1,K1,K1]
@[go_sem] def mk_54 : List Bool := [K0,K0,K1,K0,K0,K0,K1,K0,K0,K0,K0,K0,K0,K0,K0,K0,K0,K0,K0,K0,K0,K0,K0,K0,K0,K0,K0,K0,K0,K0,K0,K0,K0,K0,K0,K0,K0,K0,K0,K0,K0,K0,K0,K1,K1,K1,K1,K1,K1,K1,K1,K1,K1,K1,K1,K1,K1,K1,K1,K1,K1]
@[go_sem] def mk_55 : List Bool := [K1,K0,K1,K0,K1,K0,K0,K0,K0,K0,K0,K1,K1,K1,K1,K1,K1,K1,K1,K1,K1,K1,K1,K1,K1,K1,K1,K1,K1,K1,K1,K1,K1,K1,K1,K1,K1,K1,K1,K1,K1,K1,K1]
def printer_printable_l1b : AC := (.seq (.reg [
 iB 29 .lss 28 27])
 (.seq (.cond (.t 29) .skip
 (.exit 0))
 (.seq (.blk 1 (.seq (.reg [
 iO 30 (.ia (.t 26) (.t 28) 2 none none),
 iO 31 (.ld (.t 30) (some 2) false none),
 iO 4 (.newbox [(.str []), (.sl false 1 [])]),
 iN (.st (.t 4) (.t 31) 2 false (some 4))])
 (.seq (.reg [
 iO 32 (.fa (.t 4) 0 (some 4)),
 iO 33 (.ld (.t 32) none false (some 4)),
 iO 34 (.call n_printer_name [((.t 33), false)] false),
 iO 35 (.un .not (.t 34)),
 iM 36 35,
 iG 37 (.fa (.t 4) 1 (some 4)) 36 false,
 iG 38 (.ld (.t 37) none false (some 4)) 36 false,
 iG 39 (.call n_printer_prefixes [((.t 38), false)] false) 36 false,
 iG 40 (.un .not (.t 39)) 36 false,
 iO 41 (.pick (.t 36) (.c (.bool true)) (.t 40))])
 (.cond (.t 41) (.seq (.reg [
 iK 2 (.bool false)])
 .ret)
 .skip))))
 (.reg [
 iI 42 .add 28 1,
 iM 28 42]))))
@[go_sem] def mk_56 : List Bool := [K0,K0,K1,K0,K1,K0,K0,K0,K0,K0,K0,K0,K0,K0,K0,K0,K0,K0,K0,K0,K0,K0,K0,K0,K0,K0,K0,K0,K0,K1,K1,K1,K1,K1,K1,K1,K1,K1,K1,K1,K1,K1,K1]
def printer_printable_l1 : AC := .pre mk_56 printer_printable_l1b
@[go_sem] theorem printer_printable_l1_go : LoopRule printer_printable_l1 printer_printable_l1b mk_56 := loopRule
@[go_sem] theorem printer_printable_l1_lp : LpRule printer_printable_l1 printer_printable_l1b mk_56 := lpRule
def printer_printable_l2b : AC := (.seq (.reg [
 iB 47 .lss 46 45])
 (.seq (.cond (.t 47) .skip
 (.exit 2))
 (.seq (.blk 3 (.seq (.reg [
 iO 48 (.ia (.t 44) (.t 46) 2 none none),
 iO 49 (.ld (.t 48) (some 2) false none),
 iO 6 (.newbox [(.str []), (.sl false 3 [])]),
 iN (.st (.t 6) (.t 49) 2 false (some 6))])
 (.seq (.reg [
 iO 50 (.fa (.t 6) 0 (some 6)),
 iO 51 (.ld (.t 50) none false (some 6)),
 iO 52 (.call n_printer_name [((.t 51), false)] false),
 iO 53 (.un .not (.t 52)),
 iM 54 53,
 iG 55 (.fa (.t 6) 1 (some 6)) 54 false,
 iG 56 (.ld (.t 55) none false (some 6)) 54 false,
 iG 57 (.call n_printer_printableSlots [((.t 56), false)] false) 54 false,
 iG 58 (.un .not (.t 57)) 54 false,
 iO 59 (.pick (.t 54) (.c (.bool true)) (.t 58))])
 (.cond (.t 59) (.seq (.reg [
 iK 2 (.bool false)])
 .ret)
 .skip))))
 (.reg [
 iI 60 .add 46 1,
 iM 46 60]))))
@[go_sem] def mk_57 : List Bool := [K0,K0,K1,K0,K0,K0,K1,K0,K0,K0,K0,K0,K0,K0,K0,K0,K0,K0,K0,K0,K0,K0,K0,K0,K0,K0,K0,K0,K0,K0,K0,K0,K0,K0,K0,K0,K0,K0,K0,K0,K0,K0,K0,K0,K0,K0,K0,K1,K1,K1,K1,K1,K1,K1,K1,K1,K1,K1,K1,K1,K1]
def printer_printable_l2 : AC := .pre mk_57 printer_printable_l2b
@[go_sem] theorem printer_printable_l2_go : LoopRule printer_printable_l2 printer_printable_l2b mk_57 := loopRule
@[go_sem] theorem printer_printable_l2_lp : LpRule printer_printable_l2 printer_printable_l2b mk_57 := lpRule
def printer_printable_l3b : AC := (.seq (.reg [
 iB 65 .lss 64 63])
 (.seq (.cond (.t 65) .skip
 (.exit 4))
 (.seq (.blk 5 (.seq (.reg [
 iO 66 (.ia (.t 62) (.t 64) 5 none none),
 iO 67 (.ld (.t 66) (some 5) false none),
 iO 8 (.newbox [(.int .i64 0), (.str []), (.str []), (.int .i64 0), (.sl false 3 [])]),
 iN (.st (.t 8) (.t 67) 5 false (some 8))])
 (.seq (.reg [
 iO 68 (.ld (.t 8) (some 5) false (some 8)),
 iO 69 (.call n_printer_printableRate [((.t 68), false)] false),
 iO 70 (.un .not (.t 69))])
 (.cond (.t 70) (.seq (.reg [
 iK 2 (.bool false)])
 .ret)
 .skip))))
 (.reg [
 iI 71 .add 64 1,
 iM 64 71]))))
@[go_sem] def mk_58 : List Bool := [K0,K0,K1,K0,K0,K0,K0,K0,K1,K0,K0,K0,K0,K0,K0,K0,K0,K0,K0,K0,K0,K0,K0,K0,K0,K0,K0,K0,K0,K0,K0,K0,K0,K0,K0,K0,K0,K0,K0,K0,K0,K0,K0,K0,K0,K0,K0,K0,K0,K0,K0,K0,K0,K0,K0,K0,K0,K0,K0,K0,K0,K0,K0,K0,K0,K1,K1,K1,K1,K1,K1,K1]
def printer_printable_l3 : AC := .pre mk_58 printer_printable_l3b
@[go_sem] theorem printer_printable_l3_go : LoopRule printer_printable_l3 printer_printable_l3b mk_58 := loopRule
@[go_sem] theorem printer_printable_l3_lp : LpRule printer_printable_l3 printer_printable_l3b mk_58 := lpRule
def printer_printable_l4b : AC := (.seq (.reg [
 iB 76 .lss 75 74])
 (.seq (.cond (.t 76) .skip
 (.exit 6))
 (.seq (.blk 7 (.seq (.reg [
 iO 77 (.ia (.t 73) (.t 75) 6 none none),
 iO 78 (.ld (.t 77) (some 6) false none),
 iO 10 (.newbox [(.str []), (.int .i64 0), (.int .i64 0), (.str []), (.sl false 4 []), (.int .i64 0)]),
 iN (.st (.t 10) (.t 78) 6 false (some 10))])
 (.seq (.reg [
 iO 79 (.fa (.t 10) 0 (some 10)),
 iO 80 (.ld (.t 79) none false (some 10)),
 iO 81 (.call n_printer_name [((.t 80), false)] false),
 iO 82 (.un .not (.t 81)),
 iM 83 82,
 iG 84 (.fa (.t 10) 5 (some 10)) 83 false,
 iG 85 (.ld (.t 84) none false (some 10)) 83 false,
 iG 86 (.call n_printer_number [((.t 85), false)] false) 83 false,
 iG 87 (.un .not (.t 86)) 83 false,
 iO 88 (.pick (.t 83) (.c (.bool true)) (.t 87)),
 iM 89 88,
 iG 90 (.fa (.t 10) 1 (some 10)) 89 false,
 iG 91 (.ld (.t 90) (some 4) false (some 10)) 89 false,
 iG 92 (.call n_printer_printableExpr [((.t 91), false)] false) 89 false,
 iG 93 (.un .not (.t 92)) 89 false,
 iO 94 (.pick (.t 89) (.c (.bool true)) (.t 93))])
 (.cond (.t 94) (.seq (.reg [
 iK 2 (.bool false)])
 .ret)
 .skip))))
 (.reg [
 iI 95 .add 75 1,
 iM 75 95]))))
@[go_sem] def mk_59 : List Bool := [K0,K0,K1,K0,K0,K0,K0,K0,K0,K0,K1,K0,K0,K0,K0,K0,K0,K0,K0,K0,K0,K0,K0,K0,K0,K0,K0,K0,K0,K0,K0,K0,K0,K0,K0,K0,K0,K0,K0,K0,K0,K0,K0,K0,K0,K0,K0,K0,K0,K0,K0,K0,K0,K0,K0,K0,K0,K0,K0,K0,K0,K0,K0,K0,K0,K0,K0,K0,K0,K0,K0,K0,K0,K0,K0,K0,K1,K1,K1,K1,K1,K1,K1,K1,K1,K1,K1,K1,K1,K1,K1,K1,K1,K1,K1,K1]
def printer_printable_l4 : AC := .pre mk_59 printer_printable_l4b
@[go_sem] theorem printer_printable_l4_go : LoopRule printer_printable_l4 printer_printable_l4b mk_59 := loopRule
@[go_sem] theorem printer_printable_l4_lp : LpRule printer_printable_l4 printer_printable_l4b mk_59 := lpRule
def printer_printable_k1b : AC := (.seq (.reg [
 iK 2 (.bool true)])
 .ret)
def printer_printable_k1 : AC := .pre mk_52 printer_printable_k1b
def printer_printable_k2b : AC := (.seq (.seq (.reg [
 iF 72 1 6,
 iL 73 72,
 iO 74 (.len false (.t 73) none),
 iK 75 (.int .i64 0)])
 (.blk 6 (.pre mk_51 (.loop printer_printable_l4))))
 printer_printable_k1)
def printer_printable_k2 : AC := .pre mk_53 printer_printable_k2b
def printer_printable_k3b : AC := (.seq (.seq (.reg [
 iF 61 1 5,
 iL 62 61,
 iO 63 (.len false (.t 62) none),
 iK 64 (.int .i64 0)])
 (.blk 4 (.pre mk_50 (.loop printer_printable_l3))))
 printer_printable_k2)
def printer_printable_k3 : AC := .pre mk_54 printer_printable_k3b
def printer_printable_k4b : AC := (.seq (.seq (.reg [
 iF 43 1 4,
 iL 44 43,
 iO 45 (.len false (.t 44) none),
 iK 46 (.int .i64 0)])
 (.blk 2 (.pre mk_49 (.loop printer_printable_l2))))
 printer_printable_k3)
def printer_printable_k4 : AC := .pre mk_55 printer_printable_k4b
def a_printer_printable : AF := ⟨96, (.seq (.reg [
 iO 1 (.boxr (.t 0)),
 iK 2 (.bool false)])
 (.seq (.seq (.reg [
 iF 11 1 0,
 iL 12 11,
 iO 13 (.call n_printer_name [((.t 12), false)] false),
 iO 14 (.un .not (.t 13)),
 iM 15 14,
 iG 16 (.fa (.t 1) 1 none) 15 false,
 iG 17 (.ld (.t 16) none false none) 15 false,
 iG 18 (.bin .lss (.t 17) (.c (.int .i64 0))) 15 false,
 iO 19 (.pick (.t 15) (.c (.bool true)) (.t 18)),
 iM 20 19,
 iG 21 (.fa (.t 1) 1 none) 20 false,
 iG 22 (.ld (.t 21) none false none) 20 false,
 iG 23 (.bin .geq (.t 22) (.c (.int .i64 12622780800))) 20 false,
 iO 24 (.pick (.t 20) (.c (.bool true)) (.t 23))])
 (.cond (.t 24) (.seq (.reg [
 iK 2 (.bool false)])
 .ret)
 .skip))
 (.seq (.seq (.reg [
 iF 25 1 3,
 iL 26 25,
 iO 27 (.len false (.t 26) none),
 iK 28 (.int .i64 0)])
 (.blk 0 (.pre mk_48 (.loop printer_printable_l1))))
 printer_printable_k4))), [.tmp 2]⟩
def a_calendar_Print : AF := ⟨25, (.seq (.reg [
 iK 2 (.str [])])
 (.seq (.seq (.reg [
 iM 4 0,
 iI 5 .lss 4 0,
 iM 6 5,
 iG 7 (.mv (.t 0)) 6 false,
 iG 8 (.bin .geq (.t 7) (.c (.int .i64 146097))) 6 false,
 iO 9 (.pick (.t 6) (.c (.bool true)) (.t 8))])
 (.cond (.t 9) (.seq (.reg [
 iK 2 (.str [])])
 .ret)
 .skip))
 (.seq (.reg [
 iM 10 0,
 iO 11 (.call n_calendar_Date [((.t 10), false)] false),
 iO 3 (.newbox [(.int .i64 0), (.int .i64 0), (.int .i64 0)]),
 iN (.st (.t 3) (.t 11) 3 false (some 3))])
 (.seq (.dreg [
 iO 12 (.fa (.t 3) 0 (some 3)),
 iO 13 (.ld (.t 12) none false (some 3)),
 iO 14 (.call n_calendar_digits [((.t 13), false), ((.c (.int .i64 4)), false)] false),
 iO 15 (.bin .add (.t 14) (.c (.str [45]))),
 iO 16 (.fa (.t 3) 1 (some 3)),
 iO 17 (.ld (.t 16) none false (some 3)),
 iO 18 (.call n_calendar_digits [((.t 17), false), ((.c (.int .i64 2)), false)] false),
 iB 19 .add 15 18,
 iO 20 (.bin .add (.t 19) (.c (.str [45]))),
 iO 21 (.fa (.t 3) 2 (some 3)),
 iO 22 (.ld (.t 21) none false (some 3)),
 iO 23 (.call n_calendar_digits [((.t 22), false), ((.c (.int .i64 2)), false)] false),
 iB 24 .add 20 23,
 iC 2 24])
 .ret)))), [.tmp 2]⟩
@[go_sem] def mk_60 : List Bool := [K0,K0,K0,K1,K0,K0,K0,K0,K0,K0,K0,K0,K0,K0,K0,K0,K0,K0,K0,K0,K1,K1]
@[go_sem] def mk_61 : List Bool := [K1,K0,K0,K1,K0,K0,K0,K0,K1,K0,K0,K0,K0,K0,K0,K0,K0,K0,K0,K0,K1,K1,K1,K1,K1,K1,K1,K1,K1,K1,K1,K1]
@[go_sem] def mk_62 : List Bool := [K0,K0,K1,K0,K0,K1,K0,K0,K0,K1,K1,K1,K1,K1,K1,K1,K1,K1,K1,K1]
def printer_join_l1b : AC := (.seq (.reg [
 iB 12 .lss 11 10])
 (.seq (.cond (.t 12) .skip
 (.exit 0))
 (.seq (.blk 1 (.seq (.reg [
 iO 13 (.ia (.t 9) (.t 11) 1 none (some 0)),
 iL 14 13,
 iM 5 14])
 (.reg [
 iM 15 3,
 iM 16 5,
 iO 17 (.len true (.t 16) none),
 iB 18 .add 15 17,
 iM 3 18])))
 (.reg [
 iI 19 .add 11 1,
 iM 11 19]))))
@[go_sem] def mk_63 : List Bool := [K0,K0,K0,K0,K0,K1,K0,K0,K0,K0,K0,K0,K1,K1,K1,K1,K1,K1,K1,K1]
def printer_join_l1 : AC := .pre mk_63 printer_join_l1b
@[go_sem] theorem printer_join_l1_go : LoopRule printer_join_l1 printer_join_l1b mk_63 := loopRule
@[go_sem] theorem printer_join_l1_lp : LpRule printer_join_l1 printer_join_l1b mk_63 := lpRule
def printer_join_l2b : AC := (.seq (.reg [
 iB 25 .lss 24 23])
 (.seq (.cond (.t 25) .skip
 (.exit 2))
 (.seq (.blk 3 (.seq (.reg [
 iO 26 (.ia (.t 22) (.t 24) 1 none (some 0)),
 iL 27 26,
 iM 8 27])
 (.reg [
 iM 28 6,
 iM 29 8,
 iO 30 (.app 1 1 (.t 28) (.t 29) none),
 iM 6 30])))
 (.reg [
 iI 31 .add 24 1,
 iM 24 31]))))
@[go_sem] def mk_64 : List Bool := [K0,K0,K0,K0,K0,K0,K0,K0,K1,K0,K0,K0,K0,K0,K0,K0,K0,K0,K0,K0,K0,K0,K0,K0,K0,K1,K1,K1,K1,K1,K1,K1]
def printer_join_l2 : AC := .pre mk_64 printer_join_l2b
@[go_sem] theorem printer_join_l2_go : LoopRule printer_join_l2 printer_join_l2b mk_64 := loopRule
@[go_sem] theorem printer_join_l2_lp : LpRule printer_join_l2 printer_join_l2b mk_64 := lpRule
def printer_join_k1b : AC := (.seq (.reg [
 iO 32 (.al 6),
 iO 33 (.cvs (.t 32) (some 6)),
 iM 2 33])
 (.pre mk_17 .ret))
def printer_join_k1 : AC := .pre mk_61 printer_join_k1b
def printer_join_k2b : AC := (.seq (.reg [
 iM 20 3,
 iO 21 (.mk 1 1 (.int .u8 0) (.c (.int .i64 0)) (.t 20)),
 iM 6 21])
 (.seq (.seq (.reg [
 iC 22 0,
 iO 23 (.len false (.t 22) (some 0)),
 iK 24 (.int .i64 0)])
 (.blk 2 (.pre mk_60 (.loop printer_join_l2))))
 printer_join_k1))
def printer_join_k2 : AC := .pre mk_62 printer_join_k2b
def a_printer_join : AF := ⟨34, (.seq (.reg [
 iS 0,
 iK 2 (.str [])])
 (.seq (.reg [
 iK 3 (.int .i64 0)])
 (.seq (.seq (.reg [
 iC 9 0,
 iO 10 (.len false (.t 9) (some 0)),
 iK 11 (.int .i64 0)])
 (.blk 0 (.pre mk_28 (.loop printer_join_l1))))
 printer_join_k2))), [.tmp 2]⟩
@[go_sem] def mk_65 : List Bool := [K0,K0,K0,K0,K1]
@[go_sem] def mk_66 : List Bool := [K1,K1,K0,K0,K1,K0,K0,K1,K1,K1,K1,K1,K1,K1,K1,K1,K1,K1,K1,K1,K1,K1,K1,K1,K1,K1,K1,K1,K1]
def printer_decimal_l1b : AC := (.seq (.seq (.reg [
 iM 7 0,
 iI 8 .gtr 7 0,
 iM 9 8,
 iG 10 (.mv (.t 1)) 9 false,
 iG 11 (.bin .gtr (.t 10) (.c (.int .i64 0))) 9 false,
 iO 12 (.pick (.t 9) (.c (.bool true)) (.t 11)),
 iM 13 12,
 iG 14 (.mv (.t 6)) 13 false,
 iG 15 (.bin .eql (.t 14) (.c (.int .i64 20))) 13 false,
 iO 16 (.pick (.t 13) (.c (.bool true)) (.t 15))])
 (.cond (.t 16) .skip
 (.exit 0)))
 (.blk 1 (.seq (.reg [
 iM 17 6,
 iI 18 .sub 17 1,
 iM 6 18])
 (.seq (.reg [
 iM 19 6,
 iM 20 0,
 iI 21 .rem 20 10,
 iO 22 (.bin .add (.c (.int .i64 48)) (.t 21)),
 iO 23 (.cvi .u8 (.t 22)),
 iO 24 (.ia (.t 5) (.t 19) 1 (some 20) (some 5)),
 iN (.st (.t 24) (.t 23) 1 false (some 5))])
 (.seq (.reg [
 iM 25 0,
 iI 26 .quo 25 10,
 iM 0 26])
 (.reg [
 iM 27 1,
 iI 28 .sub 27 1,
 iM 1 28]))))))
@[go_sem] def mk_67 : List Bool := [K0,K0,K0,K0,K0,K0,K0,K1,K1,K1,K1,K1,K1,K1,K1,K1,K1,K1,K1,K1,K1,K1,K1,K1,K1,K1,K1,K1,K1]
def printer_decimal_l1 : AC := .pre mk_67 printer_decimal_l1b
@[go_sem] theorem printer_decimal_l1_go : LoopRule printer_decimal_l1 printer_decimal_l1b mk_67 := loopRule
@[go_sem] theorem printer_decimal_l1_lp : LpRule printer_decimal_l1 printer_decimal_l1b mk_67 := lpRule
def printer_decimal_k1b : AC := (.seq (.reg [
 iM 29 6,
 iO 30 (.slb 5 20 (some (.t 29)) none),
 iO 31 (.cvs (.t 30) none),
 iM 4 31])
 .ret)
def printer_decimal_k1 : AC := .pre mk_66 printer_decimal_k1b
def a_printer_decimal : AF := ⟨32, (.seq (.reg [
 iK 4 (.str [])])
 (.seq (.reg [
 iO 5 (.newbox [(.int .u8 0), (.int .u8 0), (.int .u8 0), (.int .u8 0), (.int .u8 0), (.int .u8 0), (.int .u8 0), (.int .u8 0), (.int .u8 0), (.int .u8 0), (.int .u8 0), (.int .u8 0), (.int .u8 0), (.int .u8 0), (.int .u8 0), (.int .u8 0), (.int .u8 0), (.int .u8 0), (.int .u8 0), (.int .u8 0)])])
 (.seq (.reg [
 iK 6 (.int .i64 20)])
 (.seq (.blk 0 (.pre mk_65 (.loop printer_decimal_l1)))
 printer_decimal_k1)))), [.tmp 4]⟩
@[go_sem] def mk_68 : List Bool := [K0,K0,K0,K1]
@[go_sem] def mk_69 : List Bool := [K1,K0,K1,K0,K1,K1,K1,K1,K1,K1,K1,K1,K1,K1,K1,K1,K1,K1,K1,K1,K1]
def printer_list_l1b : AC := (.seq (.reg [
 iB 9 .lss 8 7])
 (.seq (.cond (.t 9) .skip
 (.exit 0))
 (.seq (.blk 1 (.seq (.reg [
 iM 10 8,
 iO 11 (.ia (.t 6) (.t 8) 1 none (some 0)),
 iL 12 11,
 iM 4 10,
 iM 5 12])
 (.seq (.seq (.reg [
 iM 13 4,
 iI 14 .gtr 13 0])
 (.cond (.t 14) (.reg [
 iM 15 3,
 iO 16 (.app 1 1 (.t 15) (.c (.str [44, 32])) none),
 iM 3 16])
 .skip))
 (.reg [
 iM 17 3,
 iM 18 5,
 iO 19 (.app 1 1 (.t 17) (.t 18) none),
 iM 3 19]))))
 (.reg [
 iI 20 .add 8 1,
 iM 8 20]))))
@[go_sem] def mk_70 : List Bool := [K0,K0,K0,K0,K1,K1,K0,K0,K0,K1,K1,K1,K1,K1,K1,K1,K1,K1,K1,K1,K1]
def printer_list_l1 : AC := .pre mk_70 printer_list_l1b
@[go_sem] theorem printer_list_l1_go : LoopRule printer_list_l1 printer_list_l1b mk_70 := loopRule
@[go_sem] theorem printer_list_l1_lp : LpRule printer_list_l1 printer_list_l1b mk_70 := lpRule
def printer_list_k1b : AC := (.seq (.reg [
 iO 21 (.al 3),
 iO 22 (.cvs (.t 21) (some 3)),
 iM 2 22])
 (.pre mk_68 .ret))
def printer_list_k1 : AC := .pre mk_69 printer_list_k1b
def a_printer_list : AF := ⟨23, (.seq (.reg [
 iK 2 (.str [])])
 (.seq (.reg [
 iK 3 (.sl true 1 [])])
 (.seq (.seq (.reg [
 iC 6 0,
 iO 7 (.len false (.t 6) (some 0)),
 iK 8 (.int .i64 0)])
 (.blk 0 (.pre mk_28 (.loop printer_list_l1))))
 printer_list_k1))), [.tmp 2]⟩
@[go_sem] def mk_71 : List Bool := [K0,K0,K1,K0,K0,K0,K0,K0,K0,K1,K1,K1,K0,K0,K0,K1,K1,K1,K0,K0,K0,K0,K0,K0,K0,K0,K0,K0,K0,K0,K0,K0,K0,K0,K0,K0,K0,K0,K0,K1,K1,K1,K1,K1,K1,K1,K1,K1,K1,K1,K1,K1]
@[go_sem] def mk_72 : List Bool := [K0,K0,K1,K0,K0,K0,K0,K1,K1,K1,K1,K1,K0,K0,K0,K1,K1,K1,K1,K1,K1,K1,K1,K1,K1,K1,K1,K1,K1,K1,K1,K1,K1,K1,K1,K1,K1,K1,K1,K1,K1,K1,K1,K1,K1,K1,K1,K1,K1,K1,K1,K1]
@[go_sem] def mk_73 : List Bool := [K0,K0,K1,K0,K0,K1,K1,K1,K1,K1,K1,K1,K0,K0,K0,K1,K1,K1,K1,K1,K1,K1,K1,K1,K1,K1,K1,K1,K1,K1,K1,K1,K1,K1,K1,K1,K1,K1,K1,K1,K1,K1,K1,K1,K1,K1,K1,K1,K1,K1,K1,K1]
@[go_sem] def mk_74 : List Bool := [K0,K0,K1,K0,K0,K0,K0,K0,K0,K1,K1,K1]
@[go_sem] def mk_75 : List Bool := [K1,K0,K1,K0,K0,K1,K1,K1,K1,K1,K1,K1,K1,K1,K1,K1,K1,K1,K1,K1,K1,K1,K1,K1,K1,K1,K1,K1,K1,K1,K1,K1,K1,K1,K1,K1,K1,K1,K1,K1,K1,K1,K1,K1,K1,K1,K1,K1,K1,K1,K1,K1]
def printer_slots_l1b : AC := (.seq (.reg [
 iI 20 .lss 19 8])
 (.seq (.cond (.t 20) .skip
 (.exit 2))
 (.seq (.blk 3 (.seq (.reg [
 iM 21 19,
 iO 22 (.idx (.t 18) (.t 19) (some 8) 1 false),
 iM 7 21,
 iM 8 22])
 (.seq (.seq (.reg [
 iO 23 (.fa (.t 5) 0 (some 5)),
 iO 24 (.ld (.t 23) none false (some 5)),
 iM 25 7,
 iB 26 .shr 24 25,
 iI 27 .and 26 1,
 iI 28 .eql 27 0])
 (.cond (.t 28) (.exit 3)
 .skip))
 (.seq (.seq (.reg [
 iM 29 6,
 iO 30 (.bin .neq (.t 29) (.c (.str [])))])
 (.cond (.t 30) (.reg [
 iM 31 6,
 iO 32 (.bsl 1 2 (.str []) [(0, (.t 31)), (1, (.c (.str [43])))]),
 iS 32,
 iO 33 (.call n_printer_join [((.t 32), false)] false),
 iM 6 33])
 .skip))
 (.reg [
 iM 34 6,
 iM 35 8,
 iO 36 (.bsl 1 2 (.str []) [(0, (.t 34)), (1, (.t 35))]),
 iS 36,
 iO 37 (.call n_printer_join [((.t 36), false)] false),
 iM 6 37])))))
 (.reg [
 iI 38 .add 19 1,
 iM 19 38]))))
@[go_sem] def mk_76 : List Bool := [K0,K0,K0,K0,K0,K0,K0,K1,K1,K0,K0,K0,K0,K0,K0,K0,K0,K0,K0,K0,K1,K1,K1,K1,K1,K1,K1,K1,K1,K1,K1,K1,K1,K1,K1,K1,K1,K1,K1]
def printer_slots_l1 : AC := .pre mk_76 printer_slots_l1b
@[go_sem] theorem printer_slots_l1_go : LoopRule printer_slots_l1 printer_slots_l1b mk_76 := loopRule
@[go_sem] theorem printer_slots_l1_lp : LpRule printer_slots_l1 printer_slots_l1b mk_76 := lpRule
def printer_slots_k1b : AC := (.dreg [
 iM 39 3,
 iC 40 6,
 iO 41 (.fa (.t 5) 1 (some 5)),
 iO 42 (.ld (.t 41) none false (some 5)),
 iO 43 (.call n_printer_clock [((.t 42), false)] false),
 iO 44 (.fa (.t 5) 2 (some 5)),
 iO 45 (.ld (.t 44) none false (some 5)),
 iO 46 (.call n_printer_clock [((.t 45), false)] false),
 iO 47 (.bsl 1 5 (.str []) [(0, (.t 40)), (1, (.c (.str [32]))), (2, (.t 43)), (3, (.c (.str [45]))), (4, (.t 46))]),
 iO 48 (.call n_printer_join [((.t 47), true)] false),
 iO 49 (.bsl 1 1 (.str []) [(0, (.t 48))]),
 iO 50 (.app 1 16 (.t 39) (.t 49) none),
 iM 3 50])
def printer_slots_k1 : AC := .pre mk_72 printer_slots_k1b
def printer_slots_k2b : AC := (.reg [
 iI 51 .add 14 1,
 iM 14 51])
def printer_slots_k2 : AC := .pre mk_73 printer_slots_k2b
def printer_slots_l2b : AC := (.seq (.reg [
 iB 15 .lss 14 13])
 (.seq (.cond (.t 15) .skip
 (.exit 0))
 (.seq (.blk 1 (.seq (.reg [
 iO 16 (.ia (.t 12) (.t 14) 3 none (some 0)),
 iO 17 (.ld (.t 16) (some 3) false none),
 iO 5 (.newbox [(.int .i64 0), (.int .i64 0), (.int .i64 0)]),
 iN (.st (.t 5) (.t 17) 3 false (some 5))])
 (.seq (.reg [
 iK 6 (.str [])])
 (.seq (.seq (.reg [
 iO 18 (.build [(.str []), (.str []), (.str []), (.str []), (.str []), (.str []), (.str []), (.str [])] [(0, 1, (.c (.str [109, 111, 110]))), (1, 1, (.c (.str [116, 117, 101]))), (2, 1, (.c (.str [119, 101, 100]))), (3, 1, (.c (.str [116, 104, 117]))), (4, 1, (.c (.str [102, 114, 105]))), (5, 1, (.c (.str [115, 97, 116]))), (6, 1, (.c (.str [115, 117, 110]))), (7, 1, (.c (.str [104, 111, 108, 105, 100, 97, 121])))]),
 iK 19 (.int .i64 0)])
 (.blk 2 (.pre mk_71 (.loop printer_slots_l1))))
 printer_slots_k1))))
 printer_slots_k2)))
@[go_sem] def mk_77 : List Bool := [K0,K0,K0,K0,K0,K1,K1,K1,K1,K0,K0,K0,K0,K0,K0,K1,K1,K1,K1,K1,K1,K1,K1,K1,K1,K1,K1,K1,K1,K1,K1,K1,K1,K1,K1,K1,K1,K1,K1,K1,K1,K1,K1,K1,K1,K1,K1,K1,K1,K1,K1,K1]
def printer_slots_l2 : AC := .pre mk_77 printer_slots_l2b
@[go_sem] theorem printer_slots_l2_go : LoopRule printer_slots_l2 printer_slots_l2b mk_77 := loopRule
@[go_sem] theorem printer_slots_l2_lp : LpRule printer_slots_l2 printer_slots_l2b mk_77 := lpRule
def printer_slots_k3b : AC := (.seq (.reg [
 iS 3,
 iC 52 3,
 iS 52,
 iO 53 (.call n_printer_list [((.t 52), false)] false),
 iM 2 53])
 (.pre mk_68 .ret))
def printer_slots_k3 : AC := .pre mk_75 printer_slots_k3b
def a_printer_slots : AF := ⟨54, (.seq (.reg [
 iK 2 (.str [])])
 (.seq (.seq (.reg [
 iC 9 0,
 iO 10 (.len false (.t 9) (some 0)),
 iI 11 .eql 10 0])
 (.cond (.t 11) (.seq (.reg [
 iK 2 (.str [111, 116, 104, 101, 114, 119, 105, 115, 101])])
 .ret)
 .skip))
 (.seq (.reg [
 iK 3 (.sl true 1 [])])
 (.seq (.seq (.reg [
 iC 12 0,
 iO 13 (.len false (.t 12) (some 0)),
 iK 14 (.int .i64 0)])
 (.blk 0 (.pre mk_74 (.loop printer_slots_l2))))
 printer_slots_k3)))), [.tmp 2]⟩
@[go_sem] def mk_78 : List Bool := [K1,K0,K1,K0,K0,K0,K0,K0,K1,K1,K1,K1,K1,K1,K1,K1,K1]
@[go_sem] def mk_79 : List Bool := [K1,K0,K1,K0,K0,K0,K1,K1,K1,K1,K1,K1,K1,K1,K1,K1,K1,K1,K1,K1,K1,K1,K1,K1,K1,K1,K1,K1,K1,K1,K1,K1,K1,K1,K1,K1,K1,K1,K1,K1,K1,K1,K1,K1]
def printer_rate_l1b : AC := (.seq (.reg [
 iB 20 .lss 19 18])
 (.seq (.cond (.t 20) .skip
 (.exit 0))
 (.seq (.blk 1 (.seq (.reg [
 iO 21 (.ia (.t 17) (.t 19) 3 none none),
 iO 22 (.ld (.t 21) (some 3) false none),
 iO 6 (.newbox [(.int .i64 0), (.int .i64 0), (.int .i64 0)]),
 iN (.st (.t 6) (.t 22) 3 false (some 6))])
 (.seq (.reg [
 iK 7 (.str [])])
 (.seq (.seq (.reg [
 iO 23 (.fa (.t 6) 0 (some 6)),
 iO 24 (.ld (.t 23) none false (some 6)),
 iI 25 .gtr 24 0])
 (.cond (.t 25) (.reg [
 iO 26 (.fa (.t 6) 0 (some 6)),
 iO 27 (.ld (.t 26) none false (some 6)),
 iO 28 (.call n_printer_decimal [((.t 27), false), ((.c (.int .i64 1)), false)] false),
 iO 29 (.bsl 1 3 (.str []) [(0, (.c (.str [117, 112, 116, 111, 32]))), (1, (.t 28)), (2, (.c (.str [32])))]),
 iS 29,
 iO 30 (.call n_printer_join [((.t 29), false)] false),
 iM 7 30])
 .skip))
 (.dreg [
 iM 31 4,
 iC 32 7,
 iO 33 (.fa (.t 6) 1 (some 6)),
 iO 34 (.ld (.t 33) none false (some 6)),
 iO 35 (.call n_printer_decimal [((.t 34), false), ((.c (.int .i64 1)), false)] false),
 iO 36 (.fa (.t 6) 2 (some 6)),
 iO 37 (.ld (.t 36) none false (some 6)),
 iO 38 (.call n_printer_decimal [((.t 37), false), ((.c (.int .i64 1)), false)] false),
 iO 39 (.bsl 1 5 (.str []) [(0, (.t 32)), (1, (.c (.str [112, 101, 114, 32]))), (2, (.t 35)), (3, (.c (.str [32, 97, 116, 32]))), (4, (.t 38))]),
 iO 40 (.call n_printer_join [((.t 39), true)] false),
 iO 41 (.bsl 1 1 (.str []) [(0, (.t 40))]),
 iO 42 (.app 1 16 (.t 31) (.t 41) none),
 iM 4 42])))))
 (.reg [
 iI 43 .add 19 1,
 iM 19 43]))))
@[go_sem] def mk_80 : List Bool := [K0,K0,K0,K0,K0,K0,K1,K1,K0,K0,K0,K0,K0,K0,K0,K0,K0,K0,K0,K0,K1,K1,K1,K1,K1,K1,K1,K1,K1,K1,K1,K1,K1,K1,K1,K1,K1,K1,K1,K1,K1,K1,K1,K1]
def printer_rate_l1 : AC := .pre mk_80 printer_rate_l1b
@[go_sem] theorem printer_rate_l1_go : LoopRule printer_rate_l1 printer_rate_l1b mk_80 := loopRule
@[go_sem] theorem printer_rate_l1_lp : LpRule printer_rate_l1 printer_rate_l1b mk_80 := lpRule
def printer_rate_k1b : AC := (.seq (.shr 4 (.dreg [
 iF 44 1 0,
 iL 45 44,
 iO 46 (.call n_printer_kind [((.t 45), false)] false),
 iF 47 1 1,
 iL 48 47,
 iO 49 (.call n_printer_anyName [((.t 48), false)] false),
 iF 50 1 2,
 iL 51 50,
 iO 52 (.call n_printer_anyName [((.t 51), false)] false),
 iC 53 3,
 iC 54 4,
 iO 55 (.call n_printer_list [((.t 54), false)] false),
 iO 56 (.bsl 1 10 (.str []) [(0, (.c (.str [114, 97, 116, 101, 32]))), (1, (.t 46)), (2, (.c (.str [32, 116, 111, 32]))), (3, (.t 49)), (4, (.c (.str [32, 105, 110, 32]))), (5, (.t 52)), (6, (.t 53)), (7, (.c (.str [32]))), (8, (.t 55)), (9, (.c (.str [32, 59, 10])))]),
 iO 57 (.call n_printer_join [((.t 56), true)] false),
 iC 2 57]))
 (.pre mk_65 .ret))
def printer_rate_k1 : AC := .pre mk_79 printer_rate_k1b
def a_printer_rate : AF := ⟨58, (.seq (.reg [
 iO 1 (.boxr (.t 0)),
 iK 2 (.str [])])
 (.seq (.reg [
 iK 3 (.str [])])
 (.seq (.seq (.reg [
 iF 8 1 3,
 iL 9 8,
 iI 10 .gtr 9 0])
 (.cond (.t 10) (.reg [
 iF 11 1 3,
 iL 12 11,
 iO 13 (.call n_printer_decimal [((.t 12), false), ((.c (.int .i64 1)), false)] false),
 iO 14 (.bsl 1 2 (.str []) [(0, (.c (.str [32, 115, 101, 116, 117, 112, 32]))), (1, (.t 13))]),
 iS 14,
 iO 15 (.call n_printer_join [((.t 14), false)] false),
 iM 3 15])
 .skip))
 (.seq (.reg [
 iK 4 (.sl true 1 [])])
 (.seq (.seq (.reg [
 iF 16 1 4,
 iL 17 16,
 iO 18 (.len false (.t 17) none),
 iK 19 (.int .i64 0)])
 (.blk 0 (.pre mk_78 (.loop printer_rate_l1))))
 printer_rate_k1))))), [.tmp 2]⟩
def a_printer_text : AF := ⟨59, (.seq (.reg [
 iO 1 (.boxr (.t 0)),
 iK 2 (.str [])])
 (.seq (.seq (.reg [
 iF 5 1 0,
 iL 6 5])
 (.blk 0 (.seq (.reg [
 iI 8 .eql 6 1,
 iM 7 8])
 (.cond (.t 7) (.seq (.reg [
 iF 9 1 1,
 iL 10 9,
 iO 11 (.call n_printer_decimal [((.t 10), false), ((.c (.int .i64 1)), false)] false),
 iM 2 11])
 .ret)
 (.seq (.reg [
 iI 13 .eql 6 2,
 iM 12 13])
 (.cond (.t 12) (.seq (.reg [
 iF 14 1 2,
 iL 15 14,
 iO 16 (.call n_lexer_Quote [((.t 15), false)] false),
 iM 2 16])
 .ret)
 (.seq (.reg [
 iI 18 .eql 6 3,
 iM 17 18])
 (.cond (.t 17) (.seq (.reg [
 iF 19 1 2,
 iL 20 19,
 iM 2 20])
 .ret)
 (.seq (.reg [
 iI 22 .eql 6 4,
 iM 21 22])
 (.cond (.t 21) (.seq (.reg [
 iF 23 1 3,
 iL 24 23,
 iO 25 (.ia (.t 24) (.c (.int .i64 0)) 4 none none),
 iO 26 (.ld (.t 25) (some 4) false none),
 iO 27 (.call n_printer_operand [((.t 26), false), ((.c (.int .i64 3)), false)] false),
 iO 28 (.bsl 1 2 (.str []) [(0, (.c (.str [110, 111, 116, 32]))), (1, (.t 27))]),
 iS 28,
 iO 29 (.call n_printer_join [((.t 28), false)] false),
 iM 2 29])
 .ret)
 .skip))))))))))
 (.seq (.reg [
 iF 30 1 0,
 iL 31 30,
 iO 32 (.call n_printer_strength [((.t 31), false)] false),
 iM 3 32])
 (.seq (.seq (.reg [
 iM 33 3,
 iI 34 .eql 33 4])
 (.cond (.t 34) (.reg [
 iK 3 (.int .i64 5)])
 .skip))
 (.seq (.reg [
 iM 35 3,
 iM 4 35])
 (.seq (.seq (.reg [
 iF 36 1 0,
 iL 37 36,
 iO 38 (.call n_printer_strength [((.t 37), false)] false),
 iI 39 .neq 38 4])
 (.cond (.t 39) (.reg [
 iM 40 3,
 iI 41 .add 40 1,
 iM 4 41])
 .skip))
 (.seq (.dreg [
 iF 42 1 3,
 iL 43 42,
 iO 44 (.ia (.t 43) (.c (.int .i64 0)) 4 none none),
 iO 45 (.ld (.t 44) (some 4) false none),
 iC 46 3,
 iO 47 (.call n_printer_operand [((.t 45), false), ((.t 46), false)] false),
 iF 48 1 0,
 iL 49 48,
 iO 50 (.call n_printer_sign [((.t 49), false)] false),
 iF 51 1 3,
 iL 52 51,
 iO 53 (.ia (.t 52) (.c (.int .i64 1)) 4 none none),
 iO 54 (.ld (.t 53) (some 4) false none),
 iC 55 4,
 iO 56 (.call n_printer_operand [((.t 54), false), ((.t 55), false)] false),
 iO 57 (.bsl 1 5 (.str []) [(0, (.t 47)), (1, (.c (.str [32]))), (2, (.t 50)), (3, (.c (.str [32]))), (4, (.t 56))]),
 iO 58 (.call n_printer_join [((.t 57), true)] false),
 iC 2 58])
 .ret))))))), [.tmp 2]⟩
@[go_sem] def mk_81 : List Bool := [K1,K1,K0,K0,K0,K1,K1,K1,K1,K1,K1,K1,K1,K1,K1,K1,K1,K1,K1,K1,K1,K1,K1,K1,K1,K1,K1,K1,K1,K1,K1,K1,K1,K1,K1,K1,K1,K1,K1,K1,K1,K1,K1,K1,K1,K1,K1,K1,K1,K1,K1,K1,K1,K1,K1,K1,K1,K1,K1]
@[go_sem] def mk_82 : List Bool := [K1,K1,K1,K0,K1,K1,K1,K1,K1,K1,K1,K1,K1,K1,K1,K1,K1,K1,K1,K1,K1,K1,K1,K1,K1,K1,K1,K1,K1,K1,K1,K1,K1,K1,K1,K1,K1,K1,K1,K1,K1,K1,K1,K1,K1,K1,K1,K1,K1,K1,K1,K1,K1,K1,K1,K1,K1,K1,K1,K1,K1,K1,K1,K1,K1,K1,K1,K1,K1]
def printer_printableExpr_l1b : AC := (.seq (.reg [
 iB 62 .lss 61 60])
 (.seq (.cond (.t 62) .skip
 (.exit 1))
 (.seq (.blk 2 (.seq (.reg [
 iO 63 (.ia (.t 59) (.t 61) 4 none none),
 iO 64 (.ld (.t 63) (some 4) false none),
 iO 4 (.newbox [(.int .i64 0), (.int .i64 0), (.str []), (.sl false 4 [])]),
 iN (.st (.t 4) (.t 64) 4 false (some 4))])
 (.seq (.reg [
 iO 65 (.ld (.t 4) (some 4) false (some 4)),
 iO 66 (.call n_printer_printableExpr [((.t 65), false)] false),
 iO 67 (.un .not (.t 66))])
 (.cond (.t 67) (.seq (.reg [
 iK 2 (.bool false)])
 .ret)
 .skip))))
 (.reg [
 iI 68 .add 61 1,
 iM 61 68]))))
@[go_sem] def mk_83 : List Bool := [K0,K0,K1,K0,K1,K0,K0,K0,K0,K0,K0,K0,K0,K0,K0,K0,K0,K0,K0,K0,K0,K0,K0,K0,K0,K0,K0,K0,K0,K0,K0,K0,K0,K0,K0,K0,K0,K0,K0,K0,K0,K0,K0,K0,K0,K0,K0,K0,K0,K0,K0,K0,K0,K0,K0,K0,K0,K0,K0,K0,K0,K0,K1,K1,K1,K1,K1,K1,K1]
def printer_printableExpr_l1 : AC := .pre mk_83 printer_printableExpr_l1b
@[go_sem] theorem printer_printableExpr_l1_go : LoopRule printer_printableExpr_l1 printer_printableExpr_l1b mk_83 := loopRule
@[go_sem] theorem printer_printableExpr_l1_lp : LpRule printer_printableExpr_l1 printer_printableExpr_l1b mk_83 := lpRule
def printer_printableExpr_k1b : AC := (.seq (.reg [
 iK 2 (.bool true)])
 .ret)
def printer_printableExpr_k1 : AC := .pre mk_82 printer_printableExpr_k1b
def a_printer_printableExpr : AF := ⟨69, (.seq (.reg [
 iO 1 (.boxr (.t 0)),
 iK 2 (.bool false)])
 (.seq (.seq (.dreg [
 iF 5 1 0,
 iL 6 5,
 iO 7 (.call n_printer_operands [((.t 6), false)] false),
 iF 8 1 3,
 iL 9 8,
 iO 10 (.len false (.t 9) none),
 iB 11 .neq 7 10])
 (.cond (.t 11) (.seq (.reg [
 iK 2 (.bool false)])
 .ret)
 .skip))
 (.seq (.seq (.reg [
 iF 12 1 0,
 iL 13 12])
 (.blk 0 (.seq (.reg [
 iI 15 .eql 13 1,
 iM 14 15])
 (.cond (.t 14) (.seq (.reg [
 iF 16 1 1,
 iL 17 16,
 iO 18 (.call n_printer_number [((.t 17), false)] false),
 iM 19 18,
 iG 20 (.fa (.t 1) 2 none) 19 true,
 iG 21 (.ld (.t 20) none false none) 19 true,
 iG 22 (.bin .eql (.t 21) (.c (.str []))) 19 true,
 iO 23 (.pick (.t 19) (.t 22) (.c (.bool false))),
 iM 2 23])
 .ret)
 (.seq (.reg [
 iI 25 .eql 13 2,
 iM 24 25])
 (.cond (.t 24) (.seq (.reg [
 iF 26 1 1,
 iL 27 26,
 iI 28 .eql 27 0,
 iM 29 28,
 iG 30 (.fa (.t 1) 2 none) 29 true,
 iG 31 (.ld (.t 30) none false none) 29 true,
 iG 32 (.call n_lexer_Quote [((.t 31), false)] false) 29 true,
 iG 33 (.bin .neq (.t 32) (.c (.str []))) 29 true,
 iO 34 (.pick (.t 29) (.t 33) (.c (.bool false))),
 iM 2 34])
 .ret)
 (.seq (.reg [
 iI 36 .eql 13 3,
 iM 35 36])
 (.cond (.t 35) (.seq (.reg [
 iF 37 1 1,
 iL 38 37,
 iI 39 .eql 38 0,
 iM 40 39,
 iG 41 (.fa (.t 1) 2 none) 40 true,
 iG 42 (.ld (.t 41) none false none) 40 true,
 iG 43 (.call n_printer_attribute [((.t 42), false)] false) 40 true,
 iG 44 (.mv (.t 43)) 40 true,
 iG 45 (.fa (.t 1) 2 none) 44 false,
 iG 46 (.ld (.t 45) none false none) 44 false,
 iG 47 (.call n_printer_name [((.t 46), false)] false) 44 false,
 iG 48 (.pick (.t 44) (.c (.bool true)) (.t 47)) 40 true,
 iO 49 (.pick (.t 40) (.t 48) (.c (.bool false))),
 iM 2 49])
 .ret)
 .skip))))))))
 (.seq (.seq (.reg [
 iF 50 1 1,
 iL 51 50,
 iI 52 .neq 51 0,
 iM 53 52,
 iG 54 (.fa (.t 1) 2 none) 53 false,
 iG 55 (.ld (.t 54) none false none) 53 false,
 iG 56 (.bin .neq (.t 55) (.c (.str []))) 53 false,
 iO 57 (.pick (.t 53) (.c (.bool true)) (.t 56))])
 (.cond (.t 57) (.seq (.reg [
 iK 2 (.bool false)])
 .ret)
 .skip))
 (.seq (.seq (.reg [
 iF 58 1 3,
 iL 59 58,
 iO 60 (.len false (.t 59) none),
 iK 61 (.int .i64 0)])
 (.blk 1 (.pre mk_81 (.loop printer_printableExpr_l1))))
 printer_printableExpr_k1))))), [.tmp 2]⟩
def g_lexer_Scan_1 : AC := (.seq (.reg [
 iM 7 3,
 iO 8 (.un .plus (.t 7))])
 (.cond (.t 8) (.seq (.reg [
 iM 10 3,
 iO 11 (.tas (.t 10) 99 true (.agg [(.int .i64 0), (.int .i64 0)])),
 iM 9 11,
 iO 12 (.ext 9 0),
 iO 13 (.ext 9 1),
 iO 4 (.newbox [(.int .i64 0), (.int .i64 0)]),
 iN (.st (.t 4) (.t 12) 2 false (some 4)),
 iM 5 13])
 (.seq (.seq (.reg [
 iM 14 5,
 iO 15 (.un .not (.t 14))])
 (.cond (.t 15) (.reg [
 iO 16 (.fa (.t 4) 1 (some 4)),
 iN (.st (.t 16) (.c (.int .i64 1)) 1 false (some 4))])
 .skip))
 (.dreg [
 iO 17 (.fa (.t 4) 0 (some 4)),
 iO 18 (.ld (.t 17) none false (some 4)),
 iO 19 (.fa (.t 4) 1 (some 4)),
 iO 20 (.ld (.t 19) none false (some 4)),
 iN (.st (.t 0) (.c (.sl false 4 [])) 1 false none),
 iN (.st (.t 1) (.t 18) 1 false none),
 iN (.st (.t 2) (.t 20) 1 false none)])))
 .skip))
def a_lexer_scanner_next : AF := ⟨47, (.seq (.reg [
 iO 2 (.newbox [(.int .i64 0), (.int .i64 0), (.int .i64 0), (.str [])])])
 (.seq (.reg [
 iM 4 0,
 iO 5 (.call n_lexer_scanner_blanks [((.t 4), false)] true)])
 (.seq (.seq (.dreg [
 iC 6 0,
 iO 7 (.nck (.t 6) none),
 iF 8 7 1,
 iL 9 8,
 iC 10 0,
 iO 11 (.nck (.t 10) none),
 iF 12 11 0,
 iL 13 12,
 iO 14 (.len true (.t 13) none),
 iB 15 .eql 9 14])
 (.cond (.t 15) (.seq (.reg [
 iM 16 0,
 iO 17 (.nck (.t 16) none),
 iF 18 17 1,
 iL 19 18,
 iO 20 (.build [(.int .i64 0), (.int .i64 0), (.int .i64 0), (.str [])] [(0, 1, (.c (.int .i64 0))), (2, 1, (.t 19))]),
 iN (.st (.t 2) (.t 20) 4 false (some 2))])
 .ret)
 .skip))
 (.seq (.dreg [
 iC 21 0,
 iO 22 (.nck (.t 21) none),
 iF 23 22 0,
 iL 24 23,
 iC 25 0,
 iO 26 (.nck (.t 25) none),
 iF 27 26 1,
 iL 28 27,
 iO 29 (.idx (.t 24) (.t 28) none 1 false),
 iC 3 29])
 (.seq (.blk 0 (.seq (.reg [
 iM 31 3,
 iO 32 (.call n_lexer_lower [((.t 31), false)] false),
 iM 30 32])
 (.cond (.t 30) (.seq (.reg [
 iM 33 0,
 iO 34 (.call n_lexer_scanner_word [((.t 33), false)] true),
 iN (.st (.t 2) (.t 34) 4 false (some 2))])
 .ret)
 (.seq (.reg [
 iM 36 3,
 iO 37 (.call n_lexer_digit [((.t 36), false)] false),
 iM 35 37])
 (.cond (.t 35) (.seq (.reg [
 iM 38 0,
 iO 39 (.call n_lexer_scanner_number [((.t 38), false)] true),
 iN (.st (.t 2) (.t 39) 4 false (some 2))])
 .ret)
 (.seq (.reg [
 iM 41 3,
 iO 42 (.bin .eql (.t 41) (.c (.int .u8 34))),
 iM 40 42])
 (.cond (.t 40) (.seq (.reg [
 iM 43 0,
 iO 44 (.call n_lexer_scanner_text [((.t 43), false)] true),
 iN (.st (.t 2) (.t 44) 4 false (some 2))])
 .ret)
 .skip)))))))
 (.seq (.reg [
 iM 45 0,
 iO 46 (.call n_lexer_scanner_symbol [((.t 45), false)] true),
 iN (.st (.t 2) (.t 46) 4 false (some 2))])
 .ret)))))), [.cell 2 (some 4)]⟩
@[go_sem] def mk_84 : List Bool := [K1,K1,K0,K0,K1,K1,K1,K1,K1,K1,K1,K1,K1,K1,K1,K1,K1,K1]
def billingref23_Has_l1b : AC := (.seq (.seq (.reg [
 iM 6 5,
 iC 7 0,
 iO 8 (.len false (.t 7) (some 0)),
 iB 9 .lss 6 8])
 (.cond (.t 9) .skip
 (.exit 0)))
 (.seq (.blk 1 (.seq (.reg [
 iC 12 0,
 iM 13 5,
 iO 14 (.ia (.t 12) (.t 13) 1 none (some 0)),
 iL 15 14,
 iM 16 1,
 iB 17 .eql 15 16])
 (.cond (.t 17) (.seq (.reg [
 iK 4 (.bool true)])
 .ret)
 .skip)))
 (.reg [
 iM 10 5,
 iI 11 .add 10 1,
 iM 5 11])))
@[go_sem] def mk_85 : List Bool := [K0,K0,K0,K0,K1,K0,K1,K1,K1,K1,K1,K1,K1,K1,K1,K1,K1,K1]
def billingref23_Has_l1 : AC := .pre mk_85 billingref23_Has_l1b
@[go_sem] theorem billingref23_Has_l1_go : LoopRule billingref23_Has_l1 billingref23_Has_l1b mk_85 := loopRule
@[go_sem] theorem billingref23_Has_l1_lp : LpRule billingref23_Has_l1 billingref23_Has_l1b mk_85 := lpRule
def billingref23_Has_k1b : AC := (.seq (.reg [
 iK 4 (.bool false)])
 .ret)
def billingref23_Has_k1 : AC := .pre mk_84 billingref23_Has_k1b
def a_billingref23_Has : AF := ⟨18, (.seq (.reg [
 iK 4 (.bool false)])
 (.seq (.seq (.reg [
 iK 5 (.int .i64 0)])
 (.blk 0 (.loop billingref23_Has_l1)))
 billingref23_Has_k1)), [.tmp 4]⟩
def a_billingref23_inText : AF := ⟨13, (.seq (.reg [
 iK 2 (.bool false)])
 (.seq (.reg [
 iM 3 0,
 iO 4 (.bin .geq (.t 3) (.c (.int .u8 32))),
 iM 5 4,
 iG 6 (.mv (.t 0)) 5 true,
 iG 7 (.bin .leq (.t 6) (.c (.int .u8 126))) 5 true,
 iO 8 (.pick (.t 5) (.t 7) (.c (.bool false))),
 iM 9 8,
 iG 10 (.mv (.t 0)) 9 true,
 iG 11 (.bin .neq (.t 10) (.c (.int .u8 34))) 9 true,
 iO 12 (.pick (.t 9) (.t 11) (.c (.bool false))),
 iM 2 12])
 .ret)), [.tmp 2]⟩
@[go_sem] def mk_86 : List Bool := [K0,K0,K1,K0,K0,K0,K1,K0,K0,K0,K0,K0,K0,K0,K0,K0,K0,K0,K0,K0,K0,K0,K0,K0,K0,K0,K0,K0,K0,K0,K0,K0,K0,K0,K0,K0,K0,K0,K0,K0,K0,K0,K0,K0,K0,K0,K0,K0,K0,K1,K1,K1,K1,K1,K1,K1,K1,K1,K1,K1,K1,K1,K1]
@[go_sem] def mk_87 : List Bool := [K0,K0,K1,K0,K0,K1,K0,K0,K0,K0,K0,K0,K0,K0,K0,K0,K0,K0,K0,K0,K0,K0,K0,K0,K0,K0,K0,K0,K0,K0,K0,K0,K0,K0,K0,K1,K1,K1,K1,K1,K1,K1,K1,K1,K1,K1,K1,K1,K1]
@[go_sem] def mk_88 : List Bool := [K0,K0,K1,K0,K1,K0,K0,K0,K0,K0,K0,K0,K0,K0,K0,K0,K0,K0,K0,K0,K0,K1,K1,K1,K1,K1,K1,K1,K1,K1,K1,K1,K1,K1,K1]
@[go_sem] def mk_89 : List Bool := [K1,K0,K1,K1,K0,K0,K0,K1,K1,K1,K1,K1,K1,K1,K1,K1,K1,K1,K1,K1,K1]
def billingref25_Whole_l1b : AC := (.seq (.seq (.reg [
 iM 7 3,
 iF 8 1 3,
 iL 9 8,
 iO 10 (.len false (.t 9) none),
 iB 11 .lss 7 10])
 (.cond (.t 11) .skip
 (.exit 0)))
 (.seq (.blk 1 (.seq (.reg [
 iF 14 1 3,
 iL 15 14,
 iM 16 3,
 iO 17 (.ia (.t 15) (.t 16) 2 none none),
 iO 18 (.ld (.t 17) (some 2) false none),
 iO 19 (.call n_billingref25_zone [((.t 18), false)] false),
 iO 20 (.un .not (.t 19))])
 (.cond (.t 20) (.seq (.reg [
 iK 2 (.bool false)])
 .ret)
 .skip)))
 (.reg [
 iM 12 3,
 iI 13 .add 12 1,
 iM 3 13])))
@[go_sem] def mk_90 : List Bool := [K0,K0,K1,K0,K0,K0,K0,K1,K1,K1,K1,K1,K1,K1,K1,K1,K1,K1,K1,K1,K1]
def billingref25_Whole_l1 : AC := .pre mk_90 billingref25_Whole_l1b
@[go_sem] theorem billingref25_Whole_l1_go : LoopRule billingref25_Whole_l1 billingref25_Whole_l1b mk_90 := loopRule
@[go_sem] theorem billingref25_Whole_l1_lp : LpRule billingref25_Whole_l1 billingref25_Whole_l1b mk_90 := lpRule
def billingref25_Whole_l2b : AC := (.seq (.seq (.reg [
 iM 21 4,
 iF 22 1 4,
 iL 23 22,
 iO 24 (.len false (.t 23) none),
 iB 25 .lss 21 24])
 (.cond (.t 25) .skip
 (.exit 2)))
 (.seq (.blk 3 (.seq (.reg [
 iF 28 1 4,
 iL 29 28,
 iM 30 4,
 iO 31 (.ia (.t 29) (.t 30) 2 none none),
 iO 32 (.ld (.t 31) (some 2) false none),
 iO 33 (.call n_billingref25_band [((.t 32), false)] false),
 iO 34 (.un .not (.t 33))])
 (.cond (.t 34) (.seq (.reg [
 iK 2 (.bool false)])
 .ret)
 .skip)))
 (.reg [
 iM 26 4,
 iI 27 .add 26 1,
 iM 4 27])))
@[go_sem] def mk_91 : List Bool := [K0,K0,K1,K0,K0,K0,K0,K0,K0,K0,K0,K0,K0,K0,K0,K0,K0,K0,K0,K0,K0,K1,K1,K1,K1,K1,K1,K1,K1,K1,K1,K1,K1,K1,K1]
def billingref25_Whole_l2 : AC := .pre mk_91 billingref25_Whole_l2b
@[go_sem] theorem billingref25_Whole_l2_go : LoopRule billingref25_Whole_l2 billingref25_Whole_l2b mk_91 := loopRule
@[go_sem] theorem billingref25_Whole_l2_lp : LpRule billingref25_Whole_l2 billingref25_Whole_l2b mk_91 := lpRule
def billingref25_Whole_l3b : AC := (.seq (.seq (.reg [
 iM 35 5,
 iF 36 1 5,
 iL 37 36,
 iO 38 (.len false (.t 37) none),
 iB 39 .lss 35 38])
 (.cond (.t 39) .skip
 (.exit 4)))
 (.seq (.blk 5 (.seq (.reg [
 iF 42 1 5,
 iL 43 42,
 iM 44 5,
 iO 45 (.ia (.t 43) (.t 44) 5 none none),
 iO 46 (.ld (.t 45) (some 5) false none),
 iO 47 (.call n_billingref25_rate [((.t 46), false)] false),
 iO 48 (.un .not (.t 47))])
 (.cond (.t 48) (.seq (.reg [
 iK 2 (.bool false)])
 .ret)
 .skip)))
 (.reg [
 iM 40 5,
 iI 41 .add 40 1,
 iM 5 41])))
@[go_sem] def mk_92 : List Bool := [K0,K0,K1,K0,K0,K0,K0,K0,K0,K0,K0,K0,K0,K0,K0,K0,K0,K0,K0,K0,K0,K0,K0,K0,K0,K0,K0,K0,K0,K0,K0,K0,K0,K0,K0,K1,K1,K1,K1,K1,K1,K1,K1,K1,K1,K1,K1,K1,K1]
def billingref25_Whole_l3 : AC := .pre mk_92 billingref25_Whole_l3b
@[go_sem] theorem billingref25_Whole_l3_go : LoopRule billingref25_Whole_l3 billingref25_Whole_l3b mk_92 := loopRule
@[go_sem] theorem billingref25_Whole_l3_lp : LpRule billingref25_Whole_l3 billingref25_Whole_l3b mk_92 := lpRule
def billingref25_Whole_l4b : AC := (.seq (.seq (.reg [
 iM 49 6,
 iF 50 1 6,
 iL 51 50,
 iO 52 (.len false (.t 51) none),
 iB 53 .lss 49 52])
 (.cond (.t 53) .skip
 (.exit 6)))
 (.seq (.blk 7 (.seq (.reg [
 iF 56 1 6,
 iL 57 56,
 iM 58 6,
 iO 59 (.ia (.t 57) (.t 58) 6 none none),
 iO 60 (.ld (.t 59) (some 6) false none),
 iO 61 (.call n_billingref25_discount [((.t 60), false)] false),
 iO 62 (.un .not (.t 61))])
 (.cond (.t 62) (.seq (.reg [
 iK 2 (.bool false)])
 .ret)
 .skip)))
 (.reg [
 iM 54 6,
 iI 55 .add 54 1,
 iM 6 55])))
@[go_sem] def mk_93 : List Bool := [K0,K0,K1,K0,K0,K0,K0,K0,K0,K0,K0,K0,K0,K0,K0,K0,K0,K0,K0,K0,K0,K0,K0,K0,K0,K0,K0,K0,K0,K0,K0,K0,K0,K0,K0,K0,K0,K0,K0,K0,K0,K0,K0,K0,K0,K0,K0,K0,K0,K1,K1,K1,K1,K1,K1,K1,K1,K1,K1,K1,K1,K1,K1]
def billingref25_Whole_l4 : AC := .pre mk_93 billingref25_Whole_l4b
@[go_sem] theorem billingref25_Whole_l4_go : LoopRule billingref25_Whole_l4 billingref25_Whole_l4b mk_93 := loopRule
@[go_sem] theorem billingref25_Whole_l4_lp : LpRule billingref25_Whole_l4 billingref25_Whole_l4b mk_93 := lpRule
def billingref25_Whole_k1b : AC := (.seq (.reg [
 iF 63 1 0,
 iL 64 63,
 iO 65 (.call n_billingref25_Name [((.t 64), false)] false),
 iM 66 65,
 iG 67 (.fa (.t 1) 1 none) 66 true,
 iG 68 (.ld (.t 67) none false none) 66 true,
 iG 69 (.bin .geq (.t 68) (.c (.int .i64 0))) 66 true,
 iO 70 (.pick (.t 66) (.t 69) (.c (.bool false))),
 iM 71 70,
 iG 72 (.fa (.t 1) 1 none) 71 true,
 iG 73 (.ld (.t 72) none false none) 71 true,
 iG 74 (.bin .lss (.t 73) (.c (.int .i64 12622780800))) 71 true,
 iO 75 (.pick (.t 71) (.t 74) (.c (.bool false))),
 iM 2 75])
 .ret)
def billingref25_Whole_k1 : AC := .pre mk_86 billingref25_Whole_k1b
def billingref25_Whole_k2b : AC := (.seq (.seq (.reg [
 iK 6 (.int .i64 0)])
 (.blk 6 (.loop billingref25_Whole_l4)))
 billingref25_Whole_k1)
def billingref25_Whole_k2 : AC := .pre mk_87 billingref25_Whole_k2b
def billingref25_Whole_k3b : AC := (.seq (.seq (.reg [
 iK 5 (.int .i64 0)])
 (.blk 4 (.loop billingref25_Whole_l3)))
 billingref25_Whole_k2)
def billingref25_Whole_k3 : AC := .pre mk_88 billingref25_Whole_k3b
def billingref25_Whole_k4b : AC := (.seq (.seq (.reg [
 iK 4 (.int .i64 0)])
 (.blk 2 (.loop billingref25_Whole_l2)))
 billingref25_Whole_k3)
def billingref25_Whole_k4 : AC := .pre mk_89 billingref25_Whole_k4b
def a_billingref25_Whole : AF := ⟨76, (.seq (.reg [
 iO 1 (.boxr (.t 0)),
 iK 2 (.bool false)])
 (.seq (.seq (.reg [
 iK 3 (.int .i64 0)])
 (.blk 0 (.pre mk_45 (.loop billingref25_Whole_l1))))
 billingref25_Whole_k4)), [.tmp 2]⟩
def a_billingref25_head : AF := ⟨30, (.seq (.reg [
 iO 1 (.boxr (.t 0)),
 iK 2 (.str [])])
 (.seq (.dreg [
 iF 4 1 0,
 iL 5 4,
 iO 6 (.bin .add (.c (.str [116, 97, 114, 105, 102, 102, 32])) (.t 5)),
 iO 7 (.bin .add (.t 6) (.c (.str [32, 102, 114, 111, 109, 32]))),
 iF 8 1 1,
 iL 9 8,
 iI 10 .quo 9 86400,
 iO 11 (.call n_billingref25_Date [((.t 10), false)] false),
 iB 12 .add 7 11,
 iC 3 12])
 (.seq (.seq (.reg [
 iF 13 1 1,
 iL 14 13,
 iI 15 .rem 14 86400,
 iI 16 .neq 15 0])
 (.cond (.t 16) (.reg [
 iM 17 3,
 iO 18 (.bin .add (.t 17) (.c (.str [32]))),
 iF 19 1 1,
 iL 20 19,
 iI 21 .rem 20 86400,
 iO 22 (.call n_billingref25_Clock [((.t 21), false)] false),
 iB 23 .add 18 22,
 iM 3 23])
 .skip))
 (.seq (.seq (.reg [
 iF 24 1 2,
 iL 25 24])
 (.cond (.t 25) (.reg [
 iM 26 3,
 iO 27 (.bin .add (.t 26) (.c (.str [32, 115, 112, 108, 105, 116]))),
 iM 3 27])
 .skip))
 (.seq (.reg [
 iM 28 3,
 iO 29 (.bin .add (.t 28) (.c (.str [32, 59, 10]))),
 iM 2 29])
 .ret))))), [.tmp 2]⟩
def billingref25_Joined_l1b : AC := (.seq (.seq (.reg [
 iM 5 4,
 iC 6 0,
 iO 7 (.len false (.t 6) (some 0)),
 iB 8 .lss 5 7])
 (.cond (.t 8) .skip
 (.exit 0)))
 (.seq (.blk 1 (.seq (.seq (.reg [
 iM 11 4,
 iI 12 .gtr 11 0])
 (.cond (.t 12) (.reg [
 iM 13 3,
 iO 14 (.bin .add (.t 13) (.c (.str [44, 32]))),
 iM 3 14])
 .skip))
 (.reg [
 iM 15 3,
 iC 16 0,
 iM 17 4,
 iO 18 (.ia (.t 16) (.t 17) 1 none (some 0)),
 iL 19 18,
 iB 20 .add 15 19,
 iM 3 20])))
 (.reg [
 iM 9 4,
 iI 10 .add 9 1,
 iM 4 10])))
@[go_sem] def mk_94 : List Bool := [K0,K0,K0,K0,K0,K1,K1,K1,K1,K1,K1,K1,K1,K1,K1,K1,K1,K1,K1,K1,K1]
def billingref25_Joined_l1 : AC := .pre mk_94 billingref25_Joined_l1b
@[go_sem] theorem billingref25_Joined_l1_go : LoopRule billingref25_Joined_l1 billingref25_Joined_l1b mk_94 := loopRule
@[go_sem] theorem billingref25_Joined_l1_lp : LpRule billingref25_Joined_l1 billingref25_Joined_l1b mk_94 := lpRule
def billingref25_Joined_k1b : AC := (.seq (.reg [
 iM 21 3,
 iM 2 21])
 .ret)
def billingref25_Joined_k1 : AC := .pre mk_69 billingref25_Joined_k1b
def a_billingref25_Joined : AF := ⟨22, (.seq (.reg [
 iK 2 (.str [])])
 (.seq (.reg [
 iK 3 (.str [])])
 (.seq (.seq (.reg [
 iK 4 (.int .i64 0)])
 (.blk 0 (.pre mk_28 (.loop billingref25_Joined_l1))))
 billingref25_Joined_k1))), [.tmp 2]⟩
@[go_sem] def mk_95 : List Bool := [K1,K0,K1,K0,K0,K1,K1,K1,K1,K1,K1,K1,K1]
@[go_sem] def mk_96 : List Bool := [K1,K0,K1,K0,K1,K1,K1,K1,K1,K1,K1,K1,K1,K1,K1,K1,K1,K1,K1,K1,K1,K1,K1,K1,K1,K1,K1,K1,K1]
def billingref25_bandLine_l1b : AC := (.seq (.seq (.reg [
 iM 13 4,
 iF 14 1 1,
 iL 15 14,
 iO 16 (.len false (.t 15) none),
 iB 17 .lss 13 16])
 (.cond (.t 17) .skip
 (.exit 0)))
 (.seq (.blk 1 (.reg [
 iM 20 3,
 iF 21 1 1,
 iL 22 21,
 iM 23 4,
 iO 24 (.ia (.t 22) (.t 23) 3 none none),
 iO 25 (.ld (.t 24) (some 3) false none),
 iO 26 (.call n_billingref25_slot [((.t 25), false)] false),
 iO 27 (.bsl 1 1 (.str []) [(0, (.t 26))]),
 iO 28 (.app 1 16 (.t 20) (.t 27) none),
 iM 3 28]))
 (.reg [
 iM 18 4,
 iI 19 .add 18 1,
 iM 4 19])))
@[go_sem] def mk_97 : List Bool := [K0,K0,K0,K0,K0,K0,K0,K0,K0,K0,K0,K0,K0,K1,K1,K1,K1,K1,K1,K1,K1,K1,K1,K1,K1,K1,K1,K1,K1]
def billingref25_bandLine_l1 : AC := .pre mk_97 billingref25_bandLine_l1b
@[go_sem] theorem billingref25_bandLine_l1_go : LoopRule billingref25_bandLine_l1 billingref25_bandLine_l1b mk_97 := loopRule
@[go_sem] theorem billingref25_bandLine_l1_lp : LpRule billingref25_bandLine_l1 billingref25_bandLine_l1b mk_97 := lpRule
def billingref25_bandLine_k1b : AC := (.seq (.shr 3 (.dreg [
 iF 29 1 0,
 iL 30 29,
 iO 31 (.bin .add (.c (.str [98, 97, 110, 100, 32])) (.t 30)),
 iO 32 (.bin .add (.t 31) (.c (.str [32]))),
 iC 33 3,
 iO 34 (.call n_billingref25_Joined [((.t 33), false)] false),
 iB 35 .add 32 34,
 iO 36 (.bin .add (.t 35) (.c (.str [32, 59, 10]))),
 iC 2 36]))
 (.pre mk_68 .ret))
def billingref25_bandLine_k1 : AC := .pre mk_96 billingref25_bandLine_k1b
def a_billingref25_bandLine : AF := ⟨37, (.seq (.reg [
 iO 1 (.boxr (.t 0)),
 iK 2 (.str [])])
 (.seq (.seq (.reg [
 iF 5 1 1,
 iL 6 5,
 iO 7 (.len false (.t 6) none),
 iI 8 .eql 7 0])
 (.cond (.t 8) (.seq (.reg [
 iF 9 1 0,
 iL 10 9,
 iO 11 (.bin .add (.c (.str [98, 97, 110, 100, 32])) (.t 10)),
 iO 12 (.bin .add (.t 11) (.c (.str [32, 111, 116, 104, 101, 114, 119, 105, 115, 101, 32, 59, 10]))),
 iM 2 12])
 .ret)
 .skip))
 (.seq (.reg [
 iK 3 (.sl true 1 [])])
 (.seq (.seq (.reg [
 iK 4 (.int .i64 0)])
 (.blk 0 (.pre mk_95 (.loop billingref25_bandLine_l1))))
 billingref25_bandLine_k1)))), [.tmp 2]⟩
@[go_sem] def mk_98 : List Bool := [K1,K0,K1,K0,K0,K0,K1,K1,K1,K1,K1,K1,K1,K1,K1,K1,K1,K1,K1,K1,K1,K1,K1,K1,K1,K1,K1,K1,K1,K1,K1,K1,K1,K1]
@[go_sem] def mk_99 : List Bool := [K1,K1,K1,K0,K0,K1,K1,K1,K1,K1,K1,K1,K1,K1,K1,K1,K1,K1,K1,K1,K1,K1,K1,K1,K1,K1,K1,K1,K1,K1,K1,K1,K1,K1,K1,K1,K1,K1,K1,K1,K1,K1,K1,K1,K1,K1,K1,K1,K1,K1]
def billingref25_rateLine_l1b : AC := (.seq (.seq (.reg [
 iM 34 5,
 iF 35 1 4,
 iL 36 35,
 iO 37 (.len false (.t 36) none),
 iB 38 .lss 34 37])
 (.cond (.t 38) .skip
 (.exit 0)))
 (.seq (.blk 1 (.reg [
 iM 41 4,
 iF 42 1 4,
 iL 43 42,
 iM 44 5,
 iO 45 (.ia (.t 43) (.t 44) 3 none none),
 iO 46 (.ld (.t 45) (some 3) false none),
 iO 47 (.call n_billingref25_step [((.t 46), false)] false),
 iO 48 (.bsl 1 1 (.str []) [(0, (.t 47))]),
 iO 49 (.app 1 16 (.t 41) (.t 48) none),
 iM 4 49]))
 (.reg [
 iM 39 5,
 iI 40 .add 39 1,
 iM 5 40])))
@[go_sem] def mk_100 : List Bool := [K0,K0,K0,K0,K0,K0,K0,K0,K0,K0,K0,K0,K0,K0,K0,K0,K0,K0,K0,K0,K0,K0,K0,K0,K0,K0,K0,K0,K0,K0,K0,K0,K0,K0,K1,K1,K1,K1,K1,K1,K1,K1,K1,K1,K1,K1,K1,K1,K1,K1]
def billingref25_rateLine_l1 : AC := .pre mk_100 billingref25_rateLine_l1b
@[go_sem] theorem billingref25_rateLine_l1_go : LoopRule billingref25_rateLine_l1 billingref25_rateLine_l1b mk_100 := loopRule
@[go_sem] theorem billingref25_rateLine_l1_lp : LpRule billingref25_rateLine_l1 billingref25_rateLine_l1b mk_100 := lpRule
def billingref25_rateLine_k1b : AC := (.seq (.reg [
 iM 50 3,
 iS 4,
 iC 51 4,
 iS 51,
 iO 52 (.call n_billingref25_Joined [((.t 51), false)] false),
 iB 53 .add 50 52,
 iO 54 (.bin .add (.t 53) (.c (.str [32, 59, 10]))),
 iM 2 54])
 (.pre mk_65 .ret))
def billingref25_rateLine_k1 : AC := .pre mk_99 billingref25_rateLine_k1b
def a_billingref25_rateLine : AF := ⟨55, (.seq (.reg [
 iO 1 (.boxr (.t 0)),
 iK 2 (.str [])])
 (.seq (.dreg [
 iO 6 (.call n_billingref24_Kinds [] false),
 iF 7 1 0,
 iL 8 7,
 iI 9 .sub 8 1,
 iO 10 (.ia (.t 6) (.t 9) 1 none none),
 iL 11 10,
 iO 12 (.bin .add (.c (.str [114, 97, 116, 101, 32])) (.t 11)),
 iO 13 (.bin .add (.t 12) (.c (.str [32, 116, 111, 32]))),
 iF 14 1 1,
 iL 15 14,
 iO 16 (.call n_billingref25_any [((.t 15), false)] false),
 iB 17 .add 13 16,
 iO 18 (.bin .add (.t 17) (.c (.str [32, 105, 110, 32]))),
 iF 19 1 2,
 iL 20 19,
 iO 21 (.call n_billingref25_any [((.t 20), false)] false),
 iB 22 .add 18 21,
 iO 23 (.bin .add (.t 22) (.c (.str [32]))),
 iC 3 23])
 (.seq (.seq (.reg [
 iF 24 1 3,
 iL 25 24,
 iI 26 .neq 25 0])
 (.cond (.t 26) (.reg [
 iM 27 3,
 iO 28 (.bin .add (.t 27) (.c (.str [115, 101, 116, 117, 112, 32]))),
 iF 29 1 3,
 iL 30 29,
 iO 31 (.call n_billingref25_Decimal [((.t 30), false)] false),
 iB 32 .add 28 31,
 iO 33 (.bin .add (.t 32) (.c (.str [32]))),
 iM 3 33])
 .skip))
 (.seq (.reg [
 iK 4 (.sl true 1 [])])
 (.seq (.seq (.reg [
 iK 5 (.int .i64 0)])
 (.blk 0 (.pre mk_98 (.loop billingref25_rateLine_l1))))
 billingref25_rateLine_k1))))), [.tmp 2]⟩
def a_billingref25_Decimal : AF := ⟨20, (.seq (.reg [
 iK 2 (.str [])])
 (.seq (.seq (.reg [
 iM 3 0,
 iI 4 .lss 3 10])
 (.cond (.t 4) (.seq (.reg [
 iM 5 0,
 iO 6 (.bin .add (.c (.int .i64 48)) (.t 5)),
 iO 7 (.cvi .u8 (.t 6)),
 iO 8 (.bsl 1 1 (.int .u8 0) [(0, (.t 7))]),
 iO 9 (.cvs (.t 8) none),
 iM 2 9])
 .ret)
 .skip))
 (.seq (.dreg [
 iC 10 0,
 iI 11 .quo 10 10,
 iO 12 (.call n_billingref25_Decimal [((.t 11), false)] false),
 iC 13 0,
 iI 14 .rem 13 10,
 iO 15 (.bin .add (.c (.int .i64 48)) (.t 14)),
 iO 16 (.cvi .u8 (.t 15)),
 iO 17 (.bsl 1 1 (.int .u8 0) [(0, (.t 16))]),
 iO 18 (.cvs (.t 17) none),
 iB 19 .add 12 18,
 iC 2 19])
 .ret))), [.tmp 2]⟩
def a_billingref25_show : AF := ⟨55, (.seq (.reg [
 iO 1 (.boxr (.t 0)),
 iK 2 (.str [])])
 (.seq (.seq (.reg [
 iF 5 1 0,
 iL 6 5])
 (.blk 0 (.seq (.reg [
 iI 8 .eql 6 1,
 iM 7 8])
 (.cond (.t 7) (.seq (.reg [
 iF 9 1 1,
 iL 10 9,
 iO 11 (.call n_billingref25_Decimal [((.t 10), false)] false),
 iM 2 11])
 .ret)
 (.seq (.reg [
 iI 13 .eql 6 2,
 iM 12 13])
 (.cond (.t 12) (.seq (.reg [
 iF 14 1 2,
 iL 15 14,
 iO 16 (.call n_billingref23_Quote [((.t 15), false)] false),
 iM 2 16])
 .ret)
 (.seq (.reg [
 iI 18 .eql 6 3,
 iM 17 18])
 (.cond (.t 17) (.seq (.reg [
 iF 19 1 2,
 iL 20 19,
 iM 2 20])
 .ret)
 (.seq (.reg [
 iI 22 .eql 6 4,
 iM 21 22])
 (.cond (.t 21) (.seq (.reg [
 iF 23 1 3,
 iL 24 23,
 iO 25 (.ia (.t 24) (.c (.int .i64 0)) 4 none none),
 iO 26 (.ld (.t 25) (some 4) false none),
 iO 27 (.call n_billingref25_operand [((.t 26), false), ((.c (.int .i64 3)), false)] false),
 iO 28 (.bin .add (.c (.str [110, 111, 116, 32])) (.t 27)),
 iM 2 28])
 .ret)
 .skip))))))))))
 (.seq (.reg [
 iF 29 1 0,
 iL 30 29,
 iO 31 (.call n_billingref25_Strength [((.t 30), false)] false),
 iM 3 31])
 (.seq (.reg [
 iM 32 3,
 iM 4 32])
 (.seq (.seq (.reg [
 iM 33 3,
 iI 34 .eql 33 4])
 (.cond (.t 34) (.reg [
 iK 4 (.int .i64 5)])
 .skip))
 (.seq (.dreg [
 iF 35 1 3,
 iL 36 35,
 iO 37 (.ia (.t 36) (.c (.int .i64 0)) 4 none none),
 iO 38 (.ld (.t 37) (some 4) false none),
 iC 39 4,
 iO 40 (.call n_billingref25_operand [((.t 38), false), ((.t 39), false)] false),
 iO 41 (.bin .add (.t 40) (.c (.str [32]))),
 iF 42 1 0,
 iL 43 42,
 iO 44 (.call n_billingref25_Symbol [((.t 43), false)] false),
 iB 45 .add 41 44,
 iO 46 (.bin .add (.t 45) (.c (.str [32]))),
 iF 47 1 3,
 iL 48 47,
 iO 49 (.ia (.t 48) (.c (.int .i64 1)) 4 none none),
 iO 50 (.ld (.t 49) (some 4) false none),
 iC 51 3,
 iI 52 .add 51 1,
 iO 53 (.call n_billingref25_operand [((.t 50), false), ((.t 52), false)] false),
 iB 54 .add 46 53,
 iC 2 54])
 .ret)))))), [.tmp 2]⟩
@[go_sem] def mk_101 : List Bool := [K1,K0,K1]
@[go_sem] def mk_102 : List Bool := [K1,K1,K1,K0,K1,K1,K1,K1,K1,K1,K1,K1,K1,K1,K1,K1,K1,K1,K1,K1]
def billingref25_Count_l1b : AC := (.seq (.seq (.reg [
 iM 5 4,
 iF 6 1 3,
 iL 7 6,
 iO 8 (.len false (.t 7) none),
 iB 9 .lss 5 8])
 (.cond (.t 9) .skip
 (.exit 0)))
 (.seq (.blk 1 (.reg [
 iM 12 3,
 iF 13 1 3,
 iL 14 13,
 iM 15 4,
 iO 16 (.ia (.t 14) (.t 15) 4 none none),
 iO 17 (.ld (.t 16) (some 4) false none),
 iO 18 (.call n_billingref25_Count [((.t 17), false)] false),
 iB 19 .add 12 18,
 iM 3 19]))
 (.reg [
 iM 10 4,
 iI 11 .add 10 1,
 iM 4 11])))
@[go_sem] def mk_103 : List Bool := [K0,K0,K0,K0,K0,K1,K1,K1,K1,K1,K1,K1,K1,K1,K1,K1,K1,K1,K1,K1]
def billingref25_Count_l1 : AC := .pre mk_103 billingref25_Count_l1b
@[go_sem] theorem billingref25_Count_l1_go : LoopRule billingref25_Count_l1 billingref25_Count_l1b mk_103 := loopRule
@[go_sem] theorem billingref25_Count_l1_lp : LpRule billingref25_Count_l1 billingref25_Count_l1b mk_103 := lpRule
def billingref25_Count_k1b : AC := (.seq (.reg [
 iM 20 3,
 iM 2 20])
 .ret)
def billingref25_Count_k1 : AC := .pre mk_102 billingref25_Count_k1b
def a_billingref25_Count : AF := ⟨21, (.seq (.reg [
 iO 1 (.boxr (.t 0)),
 iK 2 (.int .i64 0)])
 (.seq (.reg [
 iK 3 (.int .i64 1)])
 (.seq (.seq (.reg [
 iK 4 (.int .i64 0)])
 (.blk 0 (.pre mk_101 (.loop billingref25_Count_l1))))
 billingref25_Count_k1))), [.tmp 2]⟩
@[go_sem] def mk_104 : List Bool := [K1,K0,K0,K0,K1,K1,K1,K1,K1,K1,K1,K1,K1,K1,K1,K1]
@[go_sem] def mk_105 : List Bool := [K1,K1,K1,K1,K1,K1,K1,K1,K1,K1,K1,K1,K1,K1,K1,K1,K1,K1,K1,K1,K1,K1,K1,K1,K1,K1,K1,K1,K1,K1]
def billingref25_Printable_l1b : AC := (.seq (.seq (.reg [
 iM 16 3,
 iF 17 1 3,
 iL 18 17,
 iO 19 (.len false (.t 18) none),
 iB 20 .lss 16 19])
 (.cond (.t 20) .skip
 (.exit 0)))
 (.seq (.blk 1 (.seq (.reg [
 iF 23 1 3,
 iL 24 23,
 iM 25 3,
 iO 26 (.ia (.t 24) (.t 25) 4 none none),
 iO 27 (.ld (.t 26) (some 4) false none),
 iO 28 (.call n_billingref25_Printable [((.t 27), false)] false),
 iO 29 (.un .not (.t 28))])
 (.cond (.t 29) (.seq (.reg [
 iK 2 (.bool false)])
 .ret)
 .skip)))
 (.reg [
 iM 21 3,
 iI 22 .add 21 1,
 iM 3 22])))
@[go_sem] def mk_106 : List Bool := [K0,K0,K1,K0,K0,K0,K0,K0,K0,K0,K0,K0,K0,K0,K0,K0,K1,K1,K1,K1,K1,K1,K1,K1,K1,K1,K1,K1,K1,K1]
def billingref25_Printable_l1 : AC := .pre mk_106 billingref25_Printable_l1b
@[go_sem] theorem billingref25_Printable_l1_go : LoopRule billingref25_Printable_l1 billingref25_Printable_l1b mk_106 := loopRule
@[go_sem] theorem billingref25_Printable_l1_lp : LpRule billingref25_Printable_l1 billingref25_Printable_l1b mk_106 := lpRule
def billingref25_Printable_k1b : AC := (.seq (.reg [
 iK 2 (.bool true)])
 .ret)
def billingref25_Printable_k1 : AC := .pre mk_105 billingref25_Printable_k1b
def a_billingref25_Printable : AF := ⟨30, (.seq (.reg [
 iO 1 (.boxr (.t 0)),
 iK 2 (.bool false)])
 (.seq (.seq (.dreg [
 iF 4 1 3,
 iL 5 4,
 iO 6 (.len false (.t 5) none),
 iF 7 1 0,
 iL 8 7,
 iO 9 (.call n_billingref25_Arity [((.t 8), false)] false),
 iB 10 .neq 6 9,
 iC 11 10,
 iG 12 (.ld (.t 1) (some 4) false none) 11 false,
 iG 13 (.call n_billingref25_own [((.t 12), false)] false) 11 false,
 iG 14 (.un .not (.t 13)) 11 false,
 iO 15 (.pick (.t 11) (.c (.bool true)) (.t 14))])
 (.cond (.t 15) (.seq (.reg [
 iK 2 (.bool false)])
 .ret)
 .skip))
 (.seq (.seq (.reg [
 iK 3 (.int .i64 0)])
 (.blk 0 (.pre mk_104 (.loop billingref25_Printable_l1))))
 billingref25_Printable_k1))), [.tmp 2]⟩
@[go_sem] def mk_107 : List Bool := [K1,K0,K0,K0,K0,K0,K1,K1,K1,K1,K1,K1,K1,K1,K1,K1,K1,K1]
@[go_sem] def mk_108 : List Bool := [K1,K0,K1,K1,K1,K1,K1,K1,K1,K1,K1,K1,K1,K1,K1,K1,K1,K1,K1,K1,K1,K1,K1,K1,K1,K1,K1,K1,K1,K1,K1,K1,K1,K1,K1,K1,K1,K1,K1,K1,K1,K1,K1,K1,K1,K1,K1]
def printer_name_l1b : AC := (.seq (.reg [
 iO 19 (.next 18),
 iO 20 (.ext 19 0)])
 (.seq (.cond (.t 20) .skip
 (.exit 0))
 (.blk 1 (.seq (.reg [
 iO 21 (.ext 19 1),
 iO 22 (.ext 19 2),
 iM 3 21,
 iM 4 22])
 (.seq (.reg [
 iM 23 4,
 iO 24 (.bin .geq (.t 23) (.c (.int .i32 97))),
 iM 25 24,
 iG 26 (.mv (.t 4)) 25 true,
 iG 27 (.bin .leq (.t 26) (.c (.int .i32 122))) 25 true,
 iO 28 (.pick (.t 25) (.t 27) (.c (.bool false))),
 iM 5 28])
 (.seq (.reg [
 iM 29 5,
 iO 30 (.un .not (.t 29)),
 iM 31 30,
 iG 32 (.mv (.t 3)) 31 true,
 iG 33 (.bin .eql (.t 32) (.c (.int .i64 0))) 31 true,
 iG 34 (.mv (.t 33)) 31 true,
 iG 35 (.mv (.t 4)) 34 false,
 iG 36 (.bin .neq (.t 35) (.c (.int .i32 45))) 34 false,
 iG 37 (.mv (.t 36)) 34 false,
 iG 38 (.mv (.t 4)) 37 true,
 iG 39 (.bin .lss (.t 38) (.c (.int .i32 48))) 37 true,
 iG 40 (.mv (.t 39)) 37 true,
 iG 41 (.mv (.t 4)) 40 false,
 iG 42 (.bin .gtr (.t 41) (.c (.int .i32 57))) 40 false,
 iG 43 (.pick (.t 40) (.c (.bool true)) (.t 42)) 37 true,
 iG 44 (.pick (.t 37) (.t 43) (.c (.bool false))) 34 false,
 iG 45 (.pick (.t 34) (.c (.bool true)) (.t 44)) 31 true,
 iO 46 (.pick (.t 31) (.t 45) (.c (.bool false)))])
 (.cond (.t 46) (.seq (.reg [
 iK 2 (.bool false)])
 .ret)
 .skip)))))))
@[go_sem] def mk_109 : List Bool := [K0,K0,K1,K1,K1,K1,K0,K0,K0,K0,K0,K0,K0,K0,K0,K0,K0,K0,K0,K1,K1,K1,K1,K1,K1,K1,K1,K1,K1,K1,K1,K1,K1,K1,K1,K1,K1,K1,K1,K1,K1,K1,K1,K1,K1,K1,K1]
def printer_name_l1 : AC := .pre mk_109 printer_name_l1b
@[go_sem] theorem printer_name_l1_go : LoopRule printer_name_l1 printer_name_l1b mk_109 := loopRule
@[go_sem] theorem printer_name_l1_lp : LpRule printer_name_l1 printer_name_l1b mk_109 := lpRule
def printer_name_k1b : AC := (.seq (.reg [
 iK 2 (.bool true)])
 .ret)
def printer_name_k1 : AC := .pre mk_108 printer_name_k1b
def a_printer_name : AF := ⟨47, (.seq (.reg [
 iK 2 (.bool false)])
 (.seq (.seq (.reg [
 iM 6 0,
 iO 7 (.bin .eql (.t 6) (.c (.str []))),
 iM 8 7,
 iG 9 (.mv (.t 0)) 8 false,
 iG 10 (.len true (.t 9) none) 8 false,
 iG 11 (.bin .gtr (.t 10) (.c (.int .i64 24))) 8 false,
 iO 12 (.pick (.t 8) (.c (.bool true)) (.t 11)),
 iM 13 12,
 iG 14 (.mv (.t 0)) 13 false,
 iG 15 (.call n_lexer_Keyword [((.t 14), false)] false) 13 false,
 iO 16 (.pick (.t 13) (.c (.bool true)) (.t 15))])
 (.cond (.t 16) (.seq (.reg [
 iK 2 (.bool false)])
 .ret)
 .skip))
 (.seq (.seq (.reg [
 iM 17 0,
 iO 18 (.range (.t 17))])
 (.blk 0 (.pre mk_107 (.loop printer_name_l1))))
 printer_name_k1))), [.tmp 2]⟩
@[go_sem] def mk_110 : List Bool := [K0,K0,K0,K0,K1,K0,K0,K0,K0,K0,K1,K1,K1,K1,K1,K1,K1,K1,K1,K1,K1,K0,K0,K0,K0,K0,K0,K0,K0,K0,K0,K1]
@[go_sem] def mk_111 : List Bool := [K0,K0,K1,K0,K1,K0,K1,K0,K0,K0,K1,K1,K1,K1,K1,K1,K1,K1,K1,K1,K1,K1,K1,K1,K1,K1,K1,K1,K1,K1,K1,K1]
@[go_sem] def mk_112 : List Bool := [K0,K0,K1,K0,K1,K0,K1,K1,K1,K1,K1,K1,K1,K1,K1,K1,K1,K1,K1,K1,K1,K1,K1,K1,K1,K1,K1,K1,K1,K1,K1,K1]
def printer_prefixes_l1b : AC := (.seq (.reg [
 iO 22 (.next 21),
 iO 23 (.ext 22 0)])
 (.seq (.cond (.t 23) .skip
 (.exit 2))
 (.blk 3 (.seq (.reg [
 iO 24 (.ext 22 2),
 iM 6 24])
 (.seq (.reg [
 iM 25 6,
 iO 26 (.bin .lss (.t 25) (.c (.int .i32 48))),
 iM 27 26,
 iG 28 (.mv (.t 6)) 27 false,
 iG 29 (.bin .gtr (.t 28) (.c (.int .i32 57))) 27 false,
 iO 30 (.pick (.t 27) (.c (.bool true)) (.t 29))])
 (.cond (.t 30) (.seq (.reg [
 iK 2 (.bool false)])
 .ret)
 .skip))))))
@[go_sem] def mk_113 : List Bool := [K0,K0,K1,K0,K0,K0,K1,K0,K0,K0,K0,K0,K0,K0,K0,K0,K0,K0,K0,K0,K0,K0,K1,K1,K1,K1,K1,K1,K1,K1,K1]
def printer_prefixes_l1 : AC := .pre mk_113 printer_prefixes_l1b
@[go_sem] theorem printer_prefixes_l1_go : LoopRule printer_prefixes_l1 printer_prefixes_l1b mk_113 := loopRule
@[go_sem] theorem printer_prefixes_l1_lp : LpRule printer_prefixes_l1 printer_prefixes_l1b mk_113 := lpRule
def printer_prefixes_k1b : AC := (.reg [
 iI 31 .add 9 1,
 iM 9 31])
def printer_prefixes_k1 : AC := .pre mk_111 printer_prefixes_k1b
def printer_prefixes_l2b : AC := (.seq (.reg [
 iB 10 .lss 9 8])
 (.seq (.cond (.t 10) .skip
 (.exit 0))
 (.seq (.blk 1 (.seq (.reg [
 iO 11 (.ia (.t 7) (.t 9) 1 none (some 0)),
 iL 12 11,
 iM 4 12])
 (.seq (.seq (.reg [
 iM 13 4,
 iO 14 (.bin .eql (.t 13) (.c (.str []))),
 iM 15 14,
 iG 16 (.mv (.t 4)) 15 false,
 iG 17 (.len true (.t 16) none) 15 false,
 iG 18 (.bin .gtr (.t 17) (.c (.int .i64 16))) 15 false,
 iO 19 (.pick (.t 15) (.c (.bool true)) (.t 18))])
 (.cond (.t 19) (.seq (.reg [
 iK 2 (.bool false)])
 .ret)
 .skip))
 (.seq (.reg [
 iM 20 4,
 iO 21 (.range (.t 20))])
 (.blk 2 (.pre mk_110 (.loop printer_prefixes_l1)))))))
 printer_prefixes_k1)))
def printer_prefixes_l2 : AC := .pre mk_111 printer_prefixes_l2b
@[go_sem] theorem printer_prefixes_l2_go : LoopRule printer_prefixes_l2 printer_prefixes_l2b mk_111 := loopRule
@[go_sem] theorem printer_prefixes_l2_lp : LpRule printer_prefixes_l2 printer_prefixes_l2b mk_111 := lpRule
def printer_prefixes_k2b : AC := (.seq (.reg [
 iC 32 0,
 iO 33 (.len false (.t 32) (some 0)),
 iI 34 .gtr 33 0,
 iM 2 34])
 .ret)
def printer_prefixes_k2 : AC := .pre mk_112 printer_prefixes_k2b
def a_printer_prefixes : AF := ⟨35, (.seq (.reg [
 iK 2 (.bool false)])
 (.seq (.seq (.reg [
 iC 7 0,
 iO 8 (.len false (.t 7) (some 0)),
 iK 9 (.int .i64 0)])
 (.blk 0 (.loop printer_prefixes_l2)))
 printer_prefixes_k2)), [.tmp 2]⟩
@[go_sem] def mk_114 : List Bool := [K1,K0,K1,K0,K1,K1,K1,K1,K1,K1,K1,K1,K1,K1,K1,K1,K1,K1,K1,K1,K1,K1,K1,K1,K1,K1,K1,K1,K1,K1,K1,K1,K1,K1,K1,K1,K1,K1,K1,K1]
def printer_printableSlots_l1b : AC := (.seq (.reg [
 iB 8 .lss 7 6])
 (.seq (.cond (.t 8) .skip
 (.exit 0))
 (.seq (.blk 1 (.seq (.reg [
 iO 9 (.ia (.t 5) (.t 7) 3 none (some 0)),
 iO 10 (.ld (.t 9) (some 3) false none),
 iO 4 (.newbox [(.int .i64 0), (.int .i64 0), (.int .i64 0)]),
 iN (.st (.t 4) (.t 10) 3 false (some 4))])
 (.seq (.reg [
 iO 11 (.fa (.t 4) 0 (some 4)),
 iO 12 (.ld (.t 11) none false (some 4)),
 iI 13 .lss 12 1,
 iM 14 13,
 iG 15 (.fa (.t 4) 0 (some 4)) 14 false,
 iG 16 (.ld (.t 15) none false (some 4)) 14 false,
 iG 17 (.bin .gtr (.t 16) (.c (.int .i64 255))) 14 false,
 iO 18 (.pick (.t 14) (.c (.bool true)) (.t 17)),
 iM 19 18,
 iG 20 (.fa (.t 4) 1 (some 4)) 19 false,
 iG 21 (.ld (.t 20) none false (some 4)) 19 false,
 iG 22 (.bin .lss (.t 21) (.c (.int .i64 0))) 19 false,
 iO 23 (.pick (.t 19) (.c (.bool true)) (.t 22)),
 iM 24 23,
 iG 25 (.fa (.t 4) 1 (some 4)) 24 false,
 iG 26 (.ld (.t 25) none false (some 4)) 24 false,
 iG 27 (.bin .gtr (.t 26) (.c (.int .i64 1439))) 24 false,
 iO 28 (.pick (.t 24) (.c (.bool true)) (.t 27)),
 iM 29 28,
 iG 30 (.fa (.t 4) 2 (some 4)) 29 false,
 iG 31 (.ld (.t 30) none false (some 4)) 29 false,
 iG 32 (.bin .lss (.t 31) (.c (.int .i64 0))) 29 false,
 iO 33 (.pick (.t 29) (.c (.bool true)) (.t 32)),
 iM 34 33,
 iG 35 (.fa (.t 4) 2 (some 4)) 34 false,
 iG 36 (.ld (.t 35) none false (some 4)) 34 false,
 iG 37 (.bin .gtr (.t 36) (.c (.int .i64 1440))) 34 false,
 iO 38 (.pick (.t 34) (.c (.bool true)) (.t 37))])
 (.cond (.t 38) (.seq (.reg [
 iK 2 (.bool false)])
 .ret)
 .skip))))
 (.reg [
 iI 39 .add 7 1,
 iM 7 39]))))
@[go_sem] def mk_115 : List Bool := [K0,K0,K1,K0,K1,K0,K0,K0,K1,K1,K1,K1,K1,K1,K1,K1,K1,K1,K1,K1,K1,K1,K1,K1,K1,K1,K1,K1,K1,K1,K1,K1,K1,K1,K1,K1,K1,K1,K1,K1]
def printer_printableSlots_l1 : AC := .pre mk_115 printer_printableSlots_l1b
@[go_sem] theorem printer_printableSlots_l1_go : LoopRule printer_printableSlots_l1 printer_printableSlots_l1b mk_115 := loopRule
@[go_sem] theorem printer_printableSlots_l1_lp : LpRule printer_printableSlots_l1 printer_printableSlots_l1b mk_115 := lpRule
def printer_printableSlots_k1b : AC := (.seq (.reg [
 iK 2 (.bool true)])
 .ret)
def printer_printableSlots_k1 : AC := .pre mk_114 printer_printableSlots_k1b
def a_printer_printableSlots : AF := ⟨40, (.seq (.reg [
 iK 2 (.bool false)])
 (.seq (.seq (.reg [
 iC 5 0,
 iO 6 (.len false (.t 5) (some 0)),
 iK 7 (.int .i64 0)])
 (.blk 0 (.loop printer_printableSlots_l1)))
 printer_printableSlots_k1)), [.tmp 2]⟩
@[go_sem] def mk_116 : List Bool := [K1,K1,K0,K0,K0,K1,K1,K1,K1,K1,K1,K1,K1,K1,K1,K1,K1,K1,K1,K1,K1,K1,K1,K1,K1,K1,K1,K1,K1,K1,K1,K1,K1,K1,K1,K1,K1,K1]
@[go_sem] def mk_117 : List Bool := [K1,K1,K1,K0,K1,K1,K1,K1,K1,K1,K1,K1,K1,K1,K1,K1,K1,K1,K1,K1,K1,K1,K1,K1,K1,K1,K1,K1,K1,K1,K1,K1,K1,K1,K1,K1,K1,K1,K1,K1,K1,K1,K1,K1,K1,K1,K1,K1,K1,K1,K1,K1,K1,K1,K1,K1,K1,K1,K1,K1,K1]
def printer_printableRate_l1b : AC := (.seq (.reg [
 iB 41 .lss 40 39])
 (.seq (.cond (.t 41) .skip
 (.exit 0))
 (.seq (.blk 1 (.seq (.reg [
 iO 42 (.ia (.t 38) (.t 40) 3 none none),
 iO 43 (.ld (.t 42) (some 3) false none),
 iO 4 (.newbox [(.int .i64 0), (.int .i64 0), (.int .i64 0)]),
 iN (.st (.t 4) (.t 43) 3 false (some 4))])
 (.seq (.reg [
 iO 44 (.fa (.t 4) 0 (some 4)),
 iO 45 (.ld (.t 44) none false (some 4)),
 iO 46 (.call n_printer_number [((.t 45), false)] false),
 iO 47 (.un .not (.t 46)),
 iM 48 47,
 iG 49 (.fa (.t 4) 1 (some 4)) 48 false,
 iG 50 (.ld (.t 49) none false (some 4)) 48 false,
 iG 51 (.call n_printer_number [((.t 50), false)] false) 48 false,
 iG 52 (.un .not (.t 51)) 48 false,
 iO 53 (.pick (.t 48) (.c (.bool true)) (.t 52)),
 iM 54 53,
 iG 55 (.fa (.t 4) 2 (some 4)) 54 false,
 iG 56 (.ld (.t 55) none false (some 4)) 54 false,
 iG 57 (.call n_printer_number [((.t 56), false)] false) 54 false,
 iG 58 (.un .not (.t 57)) 54 false,
 iO 59 (.pick (.t 54) (.c (.bool true)) (.t 58))])
 (.cond (.t 59) (.seq (.reg [
 iK 2 (.bool false)])
 .ret)
 .skip))))
 (.reg [
 iI 60 .add 40 1,
 iM 40 60]))))
@[go_sem] def mk_118 : List Bool := [K0,K0,K1,K0,K1,K0,K0,K0,K0,K0,K0,K0,K0,K0,K0,K0,K0,K0,K0,K0,K0,K0,K0,K0,K0,K0,K0,K0,K0,K0,K0,K0,K0,K0,K0,K0,K0,K0,K0,K0,K0,K1,K1,K1,K1,K1,K1,K1,K1,K1,K1,K1,K1,K1,K1,K1,K1,K1,K1,K1,K1]
def printer_printableRate_l1 : AC := .pre mk_118 printer_printableRate_l1b
@[go_sem] theorem printer_printableRate_l1_go : LoopRule printer_printableRate_l1 printer_printableRate_l1b mk_118 := loopRule
@[go_sem] theorem printer_printableRate_l1_lp : LpRule printer_printableRate_l1 printer_printableRate_l1b mk_118 := lpRule
def printer_printableRate_k1b : AC := (.seq (.reg [
 iK 2 (.bool true)])
 .ret)
def printer_printableRate_k1 : AC := .pre mk_117 printer_printableRate_k1b
def a_printer_printableRate : AF := ⟨61, (.seq (.reg [
 iO 1 (.boxr (.t 0)),
 iK 2 (.bool false)])
 (.seq (.seq (.reg [
 iF 5 1 0,
 iL 6 5,
 iI 7 .lss 6 1,
 iM 8 7,
 iG 9 (.fa (.t 1) 0 none) 8 false,
 iG 10 (.ld (.t 9) none false none) 8 false,
 iG 11 (.bin .gtr (.t 10) (.c (.int .i64 4))) 8 false,
 iO 12 (.pick (.t 8) (.c (.bool true)) (.t 11)),
 iM 13 12,
 iG 14 (.fa (.t 1) 1 none) 13 false,
 iG 15 (.ld (.t 14) none false none) 13 false,
 iG 16 (.call n_printer_nameOrNone [((.t 15), false)] false) 13 false,
 iG 17 (.un .not (.t 16)) 13 false,
 iO 18 (.pick (.t 13) (.c (.bool true)) (.t 17)),
 iM 19 18,
 iG 20 (.fa (.t 1) 2 none) 19 false,
 iG 21 (.ld (.t 20) none false none) 19 false,
 iG 22 (.call n_printer_nameOrNone [((.t 21), false)] false) 19 false,
 iG 23 (.un .not (.t 22)) 19 false,
 iO 24 (.pick (.t 19) (.c (.bool true)) (.t 23)),
 iM 25 24,
 iG 26 (.fa (.t 1) 3 none) 25 false,
 iG 27 (.ld (.t 26) none false none) 25 false,
 iG 28 (.call n_printer_number [((.t 27), false)] false) 25 false,
 iG 29 (.un .not (.t 28)) 25 false,
 iO 30 (.pick (.t 25) (.c (.bool true)) (.t 29)),
 iM 31 30,
 iG 32 (.fa (.t 1) 4 none) 31 false,
 iG 33 (.ld (.t 32) none false none) 31 false,
 iG 34 (.len false (.t 33) none) 31 false,
 iG 35 (.bin .eql (.t 34) (.c (.int .i64 0))) 31 false,
 iO 36 (.pick (.t 31) (.c (.bool true)) (.t 35))])
 (.cond (.t 36) (.seq (.reg [
 iK 2 (.bool false)])
 .ret)
 .skip))
 (.seq (.seq (.reg [
 iF 37 1 4,
 iL 38 37,
 iO 39 (.len false (.t 38) none),
 iK 40 (.int .i64 0)])
 (.blk 0 (.pre mk_116 (.loop printer_printableRate_l1))))
 printer_printableRate_k1))), [.tmp 2]⟩
def a_printer_number : AF := ⟨9, (.seq (.reg [
 iK 2 (.bool false)])
 (.seq (.reg [
 iM 3 0,
 iI 4 .geq 3 0,
 iM 5 4,
 iG 6 (.mv (.t 0)) 5 true,
 iG 7 (.bin .leq (.t 6) (.c (.int .i64 9999999999999999))) 5 true,
 iO 8 (.pick (.t 5) (.t 7) (.c (.bool false))),
 iM 2 8])
 .ret)), [.tmp 2]⟩
@[go_sem] def mk_119 : List Bool := [K0,K0,K0,K0,K1,K1,K1,K1,K1,K1,K1,K1,K1,K1,K1]
@[go_sem] def mk_120 : List Bool := [K0,K0,K0,K0,K0,K0,K0,K0,K0,K0,K0,K0,K0,K0,K0,K0,K0,K0,K0,K0,K0,K0,K0,K0,K0,K1,K1,K1,K1,K1]
@[go_sem] def mk_121 : List Bool := [K0,K0,K0,K0,K0,K0,K0,K0,K0,K0,K0,K0,K0,K0,K0,K0,K0,K0,K0,K0,K0,K0,K0,K0,K0,K1,K1,K1,K1,K1,K1,K1,K1,K1,K1,K1,K1,K1,K1,K1,K1,K1,K1,K1,K1,K1,K1,K1]
@[go_sem] def mk_122 : List Bool := [K0,K0,K0,K0,K1,K1,K1,K1,K1,K1,K1,K1,K1,K1,K1,K1,K1,K1,K1,K1,K1,K1,K1,K1,K1]
def calendar_Date_l1b : AC := (.seq (.seq (.reg [
 iO 15 (.fa (.t 3) 0 (some 3)),
 iO 16 (.ld (.t 15) none false (some 3)),
 iI 17 .add 16 1,
 iO 18 (.call n_calendar_before [((.t 17), false)] false),
 iM 19 0,
 iB 20 .leq 18 19])
 (.cond (.t 20) .skip
 (.exit 0)))
 (.blk 1 (.reg [
 iO 21 (.fa (.t 3) 0 (some 3)),
 iO 22 (.ld (.t 21) none false (some 3)),
 iI 23 .add 22 1,
 iO 24 (.fa (.t 3) 0 (some 3)),
 iN (.st (.t 24) (.t 23) 1 false (some 3))])))
@[go_sem] def mk_123 : List Bool := [K0,K0,K0,K0,K0,K0,K0,K0,K0,K0,K0,K0,K0,K0,K0,K1,K1,K1,K1,K1,K1,K1,K1,K1,K1]
def calendar_Date_l1 : AC := .pre mk_123 calendar_Date_l1b
@[go_sem] theorem calendar_Date_l1_go : LoopRule calendar_Date_l1 calendar_Date_l1b mk_123 := loopRule
@[go_sem] theorem calendar_Date_l1_lp : LpRule calendar_Date_l1 calendar_Date_l1b mk_123 := lpRule
def calendar_Date_l2b : AC := (.seq (.seq (.reg [
 iM 30 0,
 iO 31 (.fa (.t 3) 0 (some 3)),
 iO 32 (.ld (.t 31) none false (some 3)),
 iO 33 (.fa (.t 3) 1 (some 3)),
 iO 34 (.ld (.t 33) none false (some 3)),
 iO 35 (.call n_calendar_days [((.t 32), false), ((.t 34), false)] false),
 iB 36 .geq 30 35])
 (.cond (.t 36) .skip
 (.exit 2)))
 (.blk 3 (.seq (.reg [
 iM 37 0,
 iO 38 (.fa (.t 3) 0 (some 3)),
 iO 39 (.ld (.t 38) none false (some 3)),
 iO 40 (.fa (.t 3) 1 (some 3)),
 iO 41 (.ld (.t 40) none false (some 3)),
 iO 42 (.call n_calendar_days [((.t 39), false), ((.t 41), false)] false),
 iB 43 .sub 37 42,
 iM 0 43])
 (.reg [
 iO 44 (.fa (.t 3) 1 (some 3)),
 iO 45 (.ld (.t 44) none false (some 3)),
 iI 46 .add 45 1,
 iO 47 (.fa (.t 3) 1 (some 3)),
 iN (.st (.t 47) (.t 46) 1 false (some 3))]))))
@[go_sem] def mk_124 : List Bool := [K0,K0,K0,K0,K0,K0,K0,K0,K0,K0,K0,K0,K0,K0,K0,K0,K0,K0,K0,K0,K0,K0,K0,K0,K0,K0,K0,K0,K0,K0,K1,K1,K1,K1,K1,K1,K1,K1,K1,K1,K1,K1,K1,K1,K1,K1,K1,K1]
def calendar_Date_l2 : AC := .pre mk_124 calendar_Date_l2b
@[go_sem] theorem calendar_Date_l2_go : LoopRule calendar_Date_l2 calendar_Date_l2b mk_124 := loopRule
@[go_sem] theorem calendar_Date_l2_lp : LpRule calendar_Date_l2 calendar_Date_l2b mk_124 := lpRule
def calendar_Date_k1b : AC := (.seq (.reg [
 iM 48 0,
 iI 49 .add 48 1,
 iO 50 (.fa (.t 3) 2 (some 3)),
 iN (.st (.t 50) (.t 49) 1 false (some 3))])
 (.seq (.reg [
 iO 51 (.ld (.t 3) (some 3) false (some 3)),
 iN (.st (.t 2) (.t 51) 3 false (some 2))])
 .ret))
def calendar_Date_k1 : AC := .pre mk_121 calendar_Date_k1b
def calendar_Date_k2b : AC := (.seq (.reg [
 iM 25 0,
 iO 26 (.fa (.t 3) 0 (some 3)),
 iO 27 (.ld (.t 26) none false (some 3)),
 iO 28 (.call n_calendar_before [((.t 27), false)] false),
 iB 29 .sub 25 28,
 iM 0 29])
 (.seq (.blk 2 (.pre mk_120 (.loop calendar_Date_l2)))
 calendar_Date_k1))
def calendar_Date_k2 : AC := .pre mk_122 calendar_Date_k2b
def a_calendar_Date : AF := ⟨52, (.seq (.reg [
 iO 2 (.newbox [(.int .i64 0), (.int .i64 0), (.int .i64 0)])])
 (.seq (.seq (.reg [
 iM 4 0,
 iI 5 .lss 4 0,
 iM 6 5,
 iG 7 (.mv (.t 0)) 6 false,
 iG 8 (.bin .geq (.t 7) (.c (.int .i64 146097))) 6 false,
 iO 9 (.pick (.t 6) (.c (.bool true)) (.t 8))])
 (.cond (.t 9) (.seq (.reg [
 iO 10 (.build [(.int .i64 0), (.int .i64 0), (.int .i64 0)] []),
 iN (.st (.t 2) (.t 10) 3 false (some 2))])
 .ret)
 .skip))
 (.seq (.reg [
 iM 11 0,
 iI 12 .quo 11 366,
 iO 13 (.bin .add (.c (.int .i64 2000)) (.t 12)),
 iO 14 (.build [(.int .i64 0), (.int .i64 0), (.int .i64 0)] [(0, 1, (.t 13)), (1, 1, (.c (.int .i64 1)))]),
 iO 3 (.newbox [(.int .i64 0), (.int .i64 0), (.int .i64 0)]),
 iN (.st (.t 3) (.t 14) 3 false (some 3))])
 (.seq (.blk 0 (.pre mk_119 (.loop calendar_Date_l1)))
 calendar_Date_k2)))), [.cell 2 (some 3)]⟩
def a_calendar_digits : AF := ⟨18, (.seq (.reg [
 iK 4 (.str [])])
 (.seq (.seq (.reg [
 iM 5 1,
 iI 6 .eql 5 0])
 (.cond (.t 6) (.seq (.reg [
 iK 4 (.str [])])
 .ret)
 .skip))
 (.seq (.reg [
 iM 7 0,
 iI 8 .quo 7 10,
 iM 9 1,
 iI 10 .sub 9 1,
 iO 11 (.call n_calendar_digits [((.t 8), false), ((.t 10), false)] false),
 iM 12 0,
 iI 13 .rem 12 10,
 iO 14 (.bin .add (.c (.int .i64 48)) (.t 13)),
 iO 15 (.cvi .i32 (.t 14)),
 iO 16 (.cvr (.t 15)),
 iB 17 .add 11 16,
 iM 4 17])
 .ret))), [.tmp 4]⟩
def a_printer_clock : AF := ⟨11, (.seq (.reg [
 iK 2 (.str [])])
 (.seq (.reg [
 iM 3 0,
 iI 4 .quo 3 60,
 iO 5 (.call n_printer_decimal [((.t 4), false), ((.c (.int .i64 2)), false)] false),
 iM 6 0,
 iI 7 .rem 6 60,
 iO 8 (.call n_printer_decimal [((.t 7), false), ((.c (.int .i64 2)), false)] false),
 iO 9 (.bsl 1 3 (.str []) [(0, (.t 5)), (1, (.c (.str [58]))), (2, (.t 8))]),
 iS 9,
 iO 10 (.call n_printer_join [((.t 9), false)] false),
 iM 2 10])
 .ret)), [.tmp 2]⟩
def a_printer_kind : AF := ⟨6, (.seq (.reg [
 iK 2 (.str [])])
 (.seq (.reg [
 iO 3 (.build [(.str []), (.str []), (.str []), (.str []), (.str [])] [(0, 1, (.c (.str []))), (1, 1, (.c (.str [118, 111, 105, 99, 101]))), (2, 1, (.c (.str [116, 101, 120, 116]))), (3, 1, (.c (.str [100, 97, 116, 97]))), (4, 1, (.c (.str [99, 111, 110, 116, 101, 110, 116])))]),
 iM 4 0,
 iO 5 (.idx (.t 3) (.t 4) (some 5) 1 false),
 iM 2 5])
 .ret)), [.tmp 2]⟩
def a_printer_anyName : AF := ⟨6, (.seq (.reg [
 iK 2 (.str [])])
 (.seq (.seq (.reg [
 iM 3 0,
 iO 4 (.bin .eql (.t 3) (.c (.str [])))])
 (.cond (.t 4) (.seq (.reg [
 iK 2 (.str [97, 110, 121])])
 .ret)
 .skip))
 (.seq (.reg [
 iM 5 0,
 iM 2 5])
 .ret))), [.tmp 2]⟩
def a_printer_operand : AF := ⟨16, (.seq (.reg [
 iO 2 (.boxr (.t 0)),
 iK 4 (.str [])])
 (.seq (.seq (.reg [
 iF 5 2 0,
 iL 6 5,
 iO 7 (.call n_printer_strength [((.t 6), false)] false),
 iM 8 1,
 iB 9 .lss 7 8])
 (.cond (.t 9) (.seq (.reg [
 iO 10 (.ld (.t 2) (some 4) false none),
 iO 11 (.call n_printer_text [((.t 10), false)] false),
 iO 12 (.bsl 1 3 (.str []) [(0, (.c (.str [40]))), (1, (.t 11)), (2, (.c (.str [41])))]),
 iS 12,
 iO 13 (.call n_printer_join [((.t 12), false)] false),
 iM 4 13])
 .ret)
 .skip))
 (.seq (.reg [
 iO 14 (.ld (.t 2) (some 4) false none),
 iO 15 (.call n_printer_text [((.t 14), false)] false),
 iM 4 15])
 .ret))), [.tmp 4]⟩
def a_printer_strength : AF := ⟨22, (.seq (.reg [
 iK 2 (.int .i64 0)])
 (.seq (.seq (.reg [
 iM 3 0])
 (.blk 0 (.seq (.reg [
 iI 5 .eql 3 6,
 iM 4 5])
 (.cond (.t 4) (.seq (.reg [
 iK 2 (.int .i64 1)])
 .ret)
 (.seq (.reg [
 iI 7 .eql 3 5,
 iM 6 7])
 (.cond (.t 6) (.seq (.reg [
 iK 2 (.int .i64 2)])
 .ret)
 (.seq (.reg [
 iI 9 .eql 3 4,
 iM 8 9])
 (.cond (.t 8) (.seq (.reg [
 iK 2 (.int .i64 3)])
 .ret)
 (.seq (.seq (.reg [
 iI 11 .eql 3 7,
 iM 10 11])
 (.cond (.t 10) .skip
 (.seq (.reg [
 iI 12 .eql 3 8,
 iM 10 12])
 (.cond (.t 10) .skip
 (.seq (.reg [
 iI 13 .eql 3 9,
 iM 10 13])
 (.cond (.t 10) .skip
 (.reg [
 iI 14 .eql 3 10,
 iM 10 14])))))))
 (.cond (.t 10) (.seq (.reg [
 iK 2 (.int .i64 4)])
 .ret)
 (.seq (.seq (.reg [
 iI 16 .eql 3 11,
 iM 15 16])
 (.cond (.t 15) .skip
 (.reg [
 iI 17 .eql 3 12,
 iM 15 17])))
 (.cond (.t 15) (.seq (.reg [
 iK 2 (.int .i64 5)])
 .ret)
 (.seq (.seq (.reg [
 iI 19 .eql 3 13,
 iM 18 19])
 (.cond (.t 18) .skip
 (.seq (.reg [
 iI 20 .eql 3 14,
 iM 18 20])
 (.cond (.t 18) .skip
 (.reg [
 iI 21 .eql 3 15,
 iM 18 21])))))
 (.cond (.t 18) (.seq (.reg [
 iK 2 (.int .i64 6)])
 .ret)
 .skip))))))))))))))
 (.seq (.reg [
 iK 2 (.int .i64 7)])
 .ret))), [.tmp 2]⟩
def a_printer_sign : AF := ⟨6, (.seq (.reg [
 iK 2 (.str [])])
 (.seq (.reg [
 iO 3 (.build [(.str []), (.str []), (.str []), (.str []), (.str []), (.str []), (.str []), (.str []), (.str []), (.str []), (.str []), (.str []), (.str []), (.str []), (.str []), (.str [])] [(0, 1, (.c (.str []))), (1, 1, (.c (.str []))), (2, 1, (.c (.str []))), (3, 1, (.c (.str []))), (4, 1, (.c (.str []))), (5, 1, (.c (.str [97, 110, 100]))), (6, 1, (.c (.str [111, 114]))), (7, 1, (.c (.str [61]))), (8, 1, (.c (.str [60, 62]))), (9, 1, (.c (.str [60]))), (10, 1, (.c (.str [60, 61]))), (11, 1, (.c (.str [43]))), (12, 1, (.c (.str [45]))), (13, 1, (.c (.str [42]))), (14, 1, (.c (.str [47]))), (15, 1, (.c (.str [37])))]),
 iM 4 0,
 iO 5 (.idx (.t 3) (.t 4) (some 16) 1 false),
 iM 2 5])
 .ret)), [.tmp 2]⟩
def a_printer_operands : AF := ⟨16, (.seq (.reg [
 iK 2 (.int .i64 0)])
 (.seq (.seq (.reg [
 iM 3 0])
 (.blk 0 (.seq (.seq (.reg [
 iI 5 .eql 3 1,
 iM 4 5])
 (.cond (.t 4) .skip
 (.seq (.reg [
 iI 6 .eql 3 2,
 iM 4 6])
 (.cond (.t 4) .skip
 (.reg [
 iI 7 .eql 3 3,
 iM 4 7])))))
 (.cond (.t 4) (.seq (.reg [
 iK 2 (.int .i64 0)])
 .ret)
 (.seq (.reg [
 iI 9 .eql 3 4,
 iM 8 9])
 (.cond (.t 8) (.seq (.reg [
 iK 2 (.int .i64 1)])
 .ret)
 .skip))))))
 (.seq (.seq (.reg [
 iM 10 0,
 iI 11 .gtr 10 4,
 iM 12 11,
 iG 13 (.mv (.t 0)) 12 true,
 iG 14 (.bin .lss (.t 13) (.c (.int .i64 16))) 12 true,
 iO 15 (.pick (.t 12) (.t 14) (.c (.bool false)))])
 (.cond (.t 15) (.seq (.reg [
 iK 2 (.int .i64 2)])
 .ret)
 .skip))
 (.seq (.reg [
 iK 2 (.int .i64 (-1))])
 .ret)))), [.tmp 2]⟩
def a_printer_attribute : AF := ⟨14, (.seq (.reg [
 iK 2 (.bool false)])
 (.seq (.seq (.reg [
 iM 3 0])
 (.blk 0 (.seq (.seq (.reg [
 iO 5 (.bin .eql (.t 3) (.c (.str [107, 105, 110, 100]))),
 iM 4 5])
 (.cond (.t 4) .skip
 (.seq (.reg [
 iO 6 (.bin .eql (.t 3) (.c (.str [117, 110, 105, 116, 115]))),
 iM 4 6])
 (.cond (.t 4) .skip
 (.seq (.reg [
 iO 7 (.bin .eql (.t 3) (.c (.str [119, 101, 101, 107, 100, 97, 121]))),
 iM 4 7])
 (.cond (.t 4) .skip
 (.seq (.reg [
 iO 8 (.bin .eql (.t 3) (.c (.str [109, 105, 110, 117, 116, 101]))),
 iM 4 8])
 (.cond (.t 4) .skip
 (.seq (.reg [
 iO 9 (.bin .eql (.t 3) (.c (.str [116, 111, 116, 97, 108]))),
 iM 4 9])
 (.cond (.t 4) .skip
 (.seq (.reg [
 iO 10 (.bin .eql (.t 3) (.c (.str [115, 112, 101, 110, 116]))),
 iM 4 10])
 (.cond (.t 4) .skip
 (.seq (.reg [
 iO 11 (.bin .eql (.t 3) (.c (.str [122, 111, 110, 101]))),
 iM 4 11])
 (.cond (.t 4) .skip
 (.seq (.reg [
 iO 12 (.bin .eql (.t 3) (.c (.str [98, 97, 110, 100]))),
 iM 4 12])
 (.cond (.t 4) .skip
 (.reg [
 iO 13 (.bin .eql (.t 3) (.c (.str [102, 97, 109, 105, 108, 121]))),
 iM 4 13])))))))))))))))))
 (.cond (.t 4) (.seq (.reg [
 iK 2 (.bool true)])
 .ret)
 .skip))))
 (.seq (.reg [
 iK 2 (.bool false)])
 .ret))), [.tmp 2]⟩
@[go_sem] def mk_125 : List Bool := [K0,K0,K1,K1,K1,K1,K1,K1,K1,K1,K1,K1,K1,K1,K1,K1,K1,K1,K1,K1,K1,K1,K1,K1,K1,K1,K1,K1,K1,K1,K1,K1,K1,K1]
def lexer_scanner_blanks_l1b : AC := (.seq (.seq (.dreg [
 iC 34 0,
 iO 35 (.nck (.t 34) none),
 iF 36 35 1,
 iL 37 36,
 iC 38 0,
 iO 39 (.nck (.t 38) none),
 iF 40 39 0,
 iL 41 40,
 iO 42 (.len true (.t 41) none),
 iB 43 .lss 37 42,
 iC 44 43,
 iG 45 (.cp (.t 0)) 44 true,
 iG 46 (.nck (.t 45) none) 44 true,
 iG 47 (.fa (.t 46) 0 none) 44 true,
 iG 48 (.ld (.t 47) none false none) 44 true,
 iG 49 (.cp (.t 0)) 44 true,
 iG 50 (.nck (.t 49) none) 44 true,
 iG 51 (.fa (.t 50) 1 none) 44 true,
 iG 52 (.ld (.t 51) none false none) 44 true,
 iG 53 (.idx (.t 48) (.t 52) none 1 false) 44 true,
 iG 54 (.bin .neq (.t 53) (.c (.int .u8 10))) 44 true,
 iO 55 (.pick (.t 44) (.t 54) (.c (.bool false)))])
 (.cond (.t 55) .skip
 (.exit 3)))
 (.blk 4 (.reg [
 iM 56 0,
 iO 57 (.nck (.t 56) none),
 iF 58 57 1,
 iL 59 58,
 iI 60 .add 59 1,
 iO 61 (.nck (.t 56) none),
 iF 62 61 1,
 iN (.st (.t 62) (.t 60) 1 false none)])))
@[go_sem] def mk_126 : List Bool := [K0,K0,K0,K0,K0,K0,K0,K0,K0,K0,K0,K0,K0,K0,K0,K0,K0,K0,K0,K0,K0,K0,K0,K0,K0,K0,K0,K0,K0,K0,K0,K0,K0,K0,K1,K1,K1,K1,K1,K1,K1,K1,K1,K1,K1,K1,K1,K1,K1,K1,K1,K1,K1,K1,K1,K1,K1,K1,K1,K1,K1,K1,K1]
def lexer_scanner_blanks_l1 : AC := .pre mk_126 lexer_scanner_blanks_l1b
@[go_sem] theorem lexer_scanner_blanks_l1_go : LoopRule lexer_scanner_blanks_l1 lexer_scanner_blanks_l1b mk_126 := loopRule
@[go_sem] theorem lexer_scanner_blanks_l1_lp : LpRule lexer_scanner_blanks_l1 lexer_scanner_blanks_l1b mk_126 := lpRule
def lexer_scanner_blanks_l2b : AC := (.seq (.seq (.dreg [
 iC 2 0,
 iO 3 (.nck (.t 2) none),
 iF 4 3 1,
 iL 5 4,
 iC 6 0,
 iO 7 (.nck (.t 6) none),
 iF 8 7 0,
 iL 9 8,
 iO 10 (.len true (.t 9) none),
 iB 11 .lss 5 10])
 (.cond (.t 11) .skip
 (.exit 0)))
 (.blk 1 (.seq (.dreg [
 iC 12 0,
 iO 13 (.nck (.t 12) none),
 iF 14 13 0,
 iL 15 14,
 iC 16 0,
 iO 17 (.nck (.t 16) none),
 iF 18 17 1,
 iL 19 18,
 iO 20 (.idx (.t 15) (.t 19) none 1 false)])
 (.blk 2 (.seq (.seq (.reg [
 iO 22 (.bin .eql (.t 20) (.c (.int .u8 32))),
 iM 21 22])
 (.cond (.t 21) .skip
 (.seq (.reg [
 iO 23 (.bin .eql (.t 20) (.c (.int .u8 9))),
 iM 21 23])
 (.cond (.t 21) .skip
 (.reg [
 iO 24 (.bin .eql (.t 20) (.c (.int .u8 10))),
 iM 21 24])))))
 (.cond (.t 21) (.reg [
 iM 25 0,
 iO 26 (.nck (.t 25) none),
 iF 27 26 1,
 iL 28 27,
 iI 29 .add 28 1,
 iO 30 (.nck (.t 25) none),
 iF 31 30 1,
 iN (.st (.t 31) (.t 29) 1 false none)])
 (.seq (.reg [
 iO 33 (.bin .eql (.t 20) (.c (.int .u8 35))),
 iM 32 33])
 (.cond (.t 32) (.blk 3 (.pre mk_125 (.loop lexer_scanner_blanks_l1)))
 .ret))))))))
@[go_sem] def mk_127 : List Bool := [K0,K0,K1,K1,K1,K1,K1,K1,K1,K1,K1,K1,K1,K1,K1,K1,K1,K1,K1,K1,K1,K1,K1,K1,K1,K1,K1,K1,K1,K1,K1,K1,K1,K1,K1,K1,K1,K1,K1,K1,K1,K1,K1,K1,K1,K1,K1,K1,K1,K1,K1,K1,K1,K1,K1,K1,K1,K1,K1,K1,K1,K1,K1]
def lexer_scanner_blanks_l2 : AC := .pre mk_127 lexer_scanner_blanks_l2b
@[go_sem] theorem lexer_scanner_blanks_l2_go : LoopRule lexer_scanner_blanks_l2 lexer_scanner_blanks_l2b mk_127 := loopRule
@[go_sem] theorem lexer_scanner_blanks_l2_lp : LpRule lexer_scanner_blanks_l2 lexer_scanner_blanks_l2b mk_127 := lpRule
def a_lexer_scanner_blanks : AF := ⟨63, (.blk 0 (.loop lexer_scanner_blanks_l2)), []⟩
def a_lexer_lower : AF := ⟨9, (.seq (.reg [
 iK 2 (.bool false)])
 (.seq (.reg [
 iM 3 0,
 iO 4 (.bin .geq (.t 3) (.c (.int .u8 97))),
 iM 5 4,
 iG 6 (.mv (.t 0)) 5 true,
 iG 7 (.bin .leq (.t 6) (.c (.int .u8 122))) 5 true,
 iO 8 (.pick (.t 5) (.t 7) (.c (.bool false))),
 iM 2 8])
 .ret)), [.tmp 2]⟩
@[go_sem] def mk_128 : List Bool := [K0,K0,K0,K0,K1,K1,K1,K1]
@[go_sem] def mk_129 : List Bool := [K0,K0,K0,K0,K1,K1,K1,K1,K1,K1,K1,K1,K1,K1,K1,K1,K1,K1,K1,K1,K1,K1,K1,K1,K1,K1,K1,K1,K1,K1,K1,K1,K1,K1,K1,K1,K1,K1,K1,K1,K1,K1,K1,K1,K1,K1,K1,K1,K1,K1,K1,K1,K1,K1,K1,K1,K1,K1,K1,K1,K1]
def lexer_scanner_word_l1b : AC := (.seq (.seq (.dreg [
 iC 8 0,
 iO 9 (.nck (.t 8) none),
 iF 10 9 1,
 iL 11 10,
 iC 12 0,
 iO 13 (.nck (.t 12) none),
 iF 14 13 0,
 iL 15 14,
 iO 16 (.len true (.t 15) none),
 iB 17 .lss 11 16,
 iC 18 17,
 iG 19 (.cp (.t 0)) 18 true,
 iG 20 (.nck (.t 19) none) 18 true,
 iG 21 (.fa (.t 20) 0 none) 18 true,
 iG 22 (.ld (.t 21) none false none) 18 true,
 iG 23 (.cp (.t 0)) 18 true,
 iG 24 (.nck (.t 23) none) 18 true,
 iG 25 (.fa (.t 24) 1 none) 18 true,
 iG 26 (.ld (.t 25) none false none) 18 true,
 iG 27 (.idx (.t 22) (.t 26) none 1 false) 18 true,
 iG 28 (.call n_lexer_lower [((.t 27), false)] false) 18 true,
 iG 29 (.cp (.t 28)) 18 true,
 iG 30 (.cp (.t 0)) 29 false,
 iG 31 (.nck (.t 30) none) 29 false,
 iG 32 (.fa (.t 31) 0 none) 29 false,
 iG 33 (.ld (.t 32) none false none) 29 false,
 iG 34 (.cp (.t 0)) 29 false,
 iG 35 (.nck (.t 34) none) 29 false,
 iG 36 (.fa (.t 35) 1 none) 29 false,
 iG 37 (.ld (.t 36) none false none) 29 false,
 iG 38 (.idx (.t 33) (.t 37) none 1 false) 29 false,
 iG 39 (.call n_lexer_digit [((.t 38), false)] false) 29 false,
 iG 40 (.pick (.t 29) (.c (.bool true)) (.t 39)) 18 true,
 iG 41 (.cp (.t 40)) 18 true,
 iG 42 (.cp (.t 0)) 41 false,
 iG 43 (.nck (.t 42) none) 41 false,
 iG 44 (.fa (.t 43) 0 none) 41 false,
 iG 45 (.ld (.t 44) none false none) 41 false,
 iG 46 (.cp (.t 0)) 41 false,
 iG 47 (.nck (.t 46) none) 41 false,
 iG 48 (.fa (.t 47) 1 none) 41 false,
 iG 49 (.ld (.t 48) none false none) 41 false,
 iG 50 (.idx (.t 45) (.t 49) none 1 false) 41 false,
 iG 51 (.bin .eql (.t 50) (.c (.int .u8 45))) 41 false,
 iG 52 (.pick (.t 41) (.c (.bool true)) (.t 51)) 18 true,
 iO 53 (.pick (.t 18) (.t 52) (.c (.bool false)))])
 (.cond (.t 53) .skip
 (.exit 0)))
 (.blk 1 (.reg [
 iM 54 0,
 iO 55 (.nck (.t 54) none),
 iF 56 55 1,
 iL 57 56,
 iI 58 .add 57 1,
 iO 59 (.nck (.t 54) none),
 iF 60 59 1,
 iN (.st (.t 60) (.t 58) 1 false none)])))
@[go_sem] def mk_130 : List Bool := [K0,K0,K0,K0,K0,K0,K0,K0,K1,K1,K1,K1,K1,K1,K1,K1,K1,K1,K1,K1,K1,K1,K1,K1,K1,K1,K1,K1,K1,K1,K1,K1,K1,K1,K1,K1,K1,K1,K1,K1,K1,K1,K1,K1,K1,K1,K1,K1,K1,K1,K1,K1,K1,K1,K1,K1,K1,K1,K1,K1,K1]
def lexer_scanner_word_l1 : AC := .pre mk_130 lexer_scanner_word_l1b
@[go_sem] theorem lexer_scanner_word_l1_go : LoopRule lexer_scanner_word_l1 lexer_scanner_word_l1b mk_130 := loopRule
@[go_sem] theorem lexer_scanner_word_l1_lp : LpRule lexer_scanner_word_l1 lexer_scanner_word_l1b mk_130 := lpRule
def lexer_scanner_word_k1b : AC := (.seq (.seq (.reg [
 iM 61 0,
 iO 62 (.nck (.t 61) none),
 iF 63 62 1,
 iL 64 63,
 iM 65 3,
 iB 66 .sub 64 65,
 iI 67 .gtr 66 24])
 (.cond (.t 67) (.reg [
 iM 68 3,
 iO 69 (.call n_lexer_fail [((.t 68), false), ((.c (.int .i64 5)), false)] false)])
 .skip))
 (.seq (.dreg [
 iC 70 3,
 iC 71 0,
 iO 72 (.nck (.t 71) none),
 iF 73 72 0,
 iL 74 73,
 iC 75 3,
 iC 76 0,
 iO 77 (.nck (.t 76) none),
 iF 78 77 1,
 iL 79 78,
 iO 80 (.slc none (.t 74) (some (.t 75)) (some (.t 79)) none),
 iO 81 (.build [(.int .i64 0), (.int .i64 0), (.int .i64 0), (.str [])] [(0, 1, (.c (.int .i64 1))), (2, 1, (.t 70)), (3, 1, (.t 80))]),
 iN (.st (.t 2) (.t 81) 4 false (some 2))])
 .ret))
def lexer_scanner_word_k1 : AC := .pre mk_129 lexer_scanner_word_k1b
def a_lexer_scanner_word : AF := ⟨82, (.seq (.reg [
 iO 2 (.newbox [(.int .i64 0), (.int .i64 0), (.int .i64 0), (.str [])])])
 (.seq (.reg [
 iM 4 0,
 iO 5 (.nck (.t 4) none),
 iF 6 5 1,
 iL 7 6,
 iM 3 7])
 (.seq (.blk 0 (.pre mk_128 (.loop lexer_scanner_word_l1)))
 lexer_scanner_word_k1))), [.cell 2 (some 4)]⟩
def a_lexer_digit : AF := ⟨9, (.seq (.reg [
 iK 2 (.bool false)])
 (.seq (.reg [
 iM 3 0,
 iO 4 (.bin .geq (.t 3) (.c (.int .u8 48))),
 iM 5 4,
 iG 6 (.mv (.t 0)) 5 true,
 iG 7 (.bin .leq (.t 6) (.c (.int .u8 57))) 5 true,
 iO 8 (.pick (.t 5) (.t 7) (.c (.bool false))),
 iM 2 8])
 .ret)), [.tmp 2]⟩
@[go_sem] def mk_131 : List Bool := [K0,K0,K0,K0,K0,K1,K1,K1,K1]
@[go_sem] def mk_132 : List Bool := [K0,K0,K0,K0,K0,K1,K1,K1,K1,K1,K1,K1,K1,K1,K1,K1,K1,K1,K1,K1,K1,K1,K1,K1,K1,K1,K1,K1,K1,K1,K1,K1,K1,K1,K1,K1,K1,K1,K1,K1,K1,K1,K1,K1,K1,K1,K1,K1,K1,K1,K1,K1,K1,K1,K1,K1,K1,K1,K1]
def lexer_scanner_number_l1b : AC := (.seq (.seq (.dreg [
 iC 9 0,
 iO 10 (.nck (.t 9) none),
 iF 11 10 1,
 iL 12 11,
 iC 13 0,
 iO 14 (.nck (.t 13) none),
 iF 15 14 0,
 iL 16 15,
 iO 17 (.len true (.t 16) none),
 iB 18 .lss 12 17,
 iC 19 18,
 iG 20 (.cp (.t 0)) 19 true,
 iG 21 (.nck (.t 20) none) 19 true,
 iG 22 (.fa (.t 21) 0 none) 19 true,
 iG 23 (.ld (.t 22) none false none) 19 true,
 iG 24 (.cp (.t 0)) 19 true,
 iG 25 (.nck (.t 24) none) 19 true,
 iG 26 (.fa (.t 25) 1 none) 19 true,
 iG 27 (.ld (.t 26) none false none) 19 true,
 iG 28 (.idx (.t 23) (.t 27) none 1 false) 19 true,
 iG 29 (.call n_lexer_digit [((.t 28), false)] false) 19 true,
 iO 30 (.pick (.t 19) (.t 29) (.c (.bool false)))])
 (.cond (.t 30) .skip
 (.exit 0)))
 (.blk 1 (.seq (.seq (.reg [
 iM 31 0,
 iO 32 (.nck (.t 31) none),
 iF 33 32 1,
 iL 34 33,
 iM 35 3,
 iB 36 .sub 34 35,
 iI 37 .lss 36 16])
 (.cond (.t 37) (.dreg [
 iC 38 4,
 iI 39 .mul 38 10,
 iC 40 0,
 iO 41 (.nck (.t 40) none),
 iF 42 41 0,
 iL 43 42,
 iC 44 0,
 iO 45 (.nck (.t 44) none),
 iF 46 45 1,
 iL 47 46,
 iO 48 (.idx (.t 43) (.t 47) none 1 false),
 iO 49 (.bin .sub (.t 48) (.c (.int .u8 48))),
 iO 50 (.cvi .i64 (.t 49)),
 iB 51 .add 39 50,
 iC 4 51])
 .skip))
 (.reg [
 iM 52 0,
 iO 53 (.nck (.t 52) none),
 iF 54 53 1,
 iL 55 54,
 iI 56 .add 55 1,
 iO 57 (.nck (.t 52) none),
 iF 58 57 1,
 iN (.st (.t 58) (.t 56) 1 false none)]))))
@[go_sem] def mk_133 : List Bool := [K0,K0,K0,K0,K0,K0,K0,K0,K0,K1,K1,K1,K1,K1,K1,K1,K1,K1,K1,K1,K1,K1,K1,K1,K1,K1,K1,K1,K1,K1,K1,K1,K1,K1,K1,K1,K1,K1,K1,K1,K1,K1,K1,K1,K1,K1,K1,K1,K1,K1,K1,K1,K1,K1,K1,K1,K1,K1,K1]
def lexer_scanner_number_l1 : AC := .pre mk_133 lexer_scanner_number_l1b
@[go_sem] theorem lexer_scanner_number_l1_go : LoopRule lexer_scanner_number_l1 lexer_scanner_number_l1b mk_133 := loopRule
@[go_sem] theorem lexer_scanner_number_l1_lp : LpRule lexer_scanner_number_l1 lexer_scanner_number_l1b mk_133 := lpRule
def lexer_scanner_number_k1b : AC := (.seq (.seq (.reg [
 iM 59 0,
 iO 60 (.nck (.t 59) none),
 iF 61 60 1,
 iL 62 61,
 iM 63 3,
 iB 64 .sub 62 63,
 iI 65 .gtr 64 16])
 (.cond (.t 65) (.reg [
 iM 66 3,
 iO 67 (.call n_lexer_fail [((.t 66), false), ((.c (.int .i64 5)), false)] false)])
 .skip))
 (.seq (.seq (.dreg [
 iC 68 0,
 iO 69 (.nck (.t 68) none),
 iF 70 69 1,
 iL 71 70,
 iC 72 0,
 iO 73 (.nck (.t 72) none),
 iF 74 73 0,
 iL 75 74,
 iO 76 (.len true (.t 75) none),
 iB 77 .lss 71 76,
 iC 78 77,
 iG 79 (.cp (.t 0)) 78 true,
 iG 80 (.nck (.t 79) none) 78 true,
 iG 81 (.fa (.t 80) 0 none) 78 true,
 iG 82 (.ld (.t 81) none false none) 78 true,
 iG 83 (.cp (.t 0)) 78 true,
 iG 84 (.nck (.t 83) none) 78 true,
 iG 85 (.fa (.t 84) 1 none) 78 true,
 iG 86 (.ld (.t 85) none false none) 78 true,
 iG 87 (.idx (.t 82) (.t 86) none 1 false) 78 true,
 iG 88 (.call n_lexer_lower [((.t 87), false)] false) 78 true,
 iO 89 (.pick (.t 78) (.t 88) (.c (.bool false)))])
 (.cond (.t 89) (.reg [
 iM 90 3,
 iO 91 (.call n_lexer_fail [((.t 90), false), ((.c (.int .i64 1)), false)] false)])
 .skip))
 (.seq (.dreg [
 iC 92 4,
 iC 93 3,
 iC 94 0,
 iO 95 (.nck (.t 94) none),
 iF 96 95 0,
 iL 97 96,
 iC 98 3,
 iC 99 0,
 iO 100 (.nck (.t 99) none),
 iF 101 100 1,
 iL 102 101,
 iO 103 (.slc none (.t 97) (some (.t 98)) (some (.t 102)) none),
 iO 104 (.build [(.int .i64 0), (.int .i64 0), (.int .i64 0), (.str [])] [(0, 1, (.c (.int .i64 2))), (1, 1, (.t 92)), (2, 1, (.t 93)), (3, 1, (.t 103))]),
 iN (.st (.t 2) (.t 104) 4 false (some 2))])
 .ret)))
def lexer_scanner_number_k1 : AC := .pre mk_132 lexer_scanner_number_k1b
def a_lexer_scanner_number : AF := ⟨105, (.seq (.reg [
 iO 2 (.newbox [(.int .i64 0), (.int .i64 0), (.int .i64 0), (.str [])])])
 (.seq (.reg [
 iM 5 0,
 iO 6 (.nck (.t 5) none),
 iF 7 6 1,
 iL 8 7,
 iM 3 8])
 (.seq (.reg [
 iK 4 (.int .i64 0)])
 (.seq (.blk 0 (.pre mk_131 (.loop lexer_scanner_number_l1)))
 lexer_scanner_number_k1)))), [.cell 2 (some 4)]⟩
@[go_sem] def mk_134 : List Bool := [K0,K0,K0,K0,K0,K1,K1,K1,K1,K1,K1,K1,K1,K1,K1,K1]
@[go_sem] def mk_135 : List Bool := [K0,K0,K0,K0,K0,K1,K1,K1,K1,K1,K1,K1,K1,K1,K1,K1,K1,K1,K1,K1,K1,K1,K1,K1,K1,K1,K1,K1,K1,K1,K1,K1,K1,K1,K1,K1,K1,K1,K1,K1,K1,K1,K1,K1,K1,K1,K1,K1,K1,K1,K1,K1,K1,K1,K1,K1,K1,K1,K1,K1,K1,K1,K1,K1,K1,K1,K1,K1,K1]
def lexer_scanner_text_l1b : AC := (.seq (.seq (.dreg [
 iC 16 0,
 iO 17 (.nck (.t 16) none),
 iF 18 17 1,
 iL 19 18,
 iC 20 0,
 iO 21 (.nck (.t 20) none),
 iF 22 21 0,
 iL 23 22,
 iO 24 (.len true (.t 23) none),
 iB 25 .lss 19 24,
 iC 26 25,
 iG 27 (.cp (.t 0)) 26 true,
 iG 28 (.nck (.t 27) none) 26 true,
 iG 29 (.fa (.t 28) 0 none) 26 true,
 iG 30 (.ld (.t 29) none false none) 26 true,
 iG 31 (.cp (.t 0)) 26 true,
 iG 32 (.nck (.t 31) none) 26 true,
 iG 33 (.fa (.t 32) 1 none) 26 true,
 iG 34 (.ld (.t 33) none false none) 26 true,
 iG 35 (.idx (.t 30) (.t 34) none 1 false) 26 true,
 iG 36 (.bin .neq (.t 35) (.c (.int .u8 34))) 26 true,
 iO 37 (.pick (.t 26) (.t 36) (.c (.bool false)))])
 (.cond (.t 37) .skip
 (.exit 0)))
 (.blk 1 (.seq (.seq (.dreg [
 iC 38 0,
 iO 39 (.nck (.t 38) none),
 iF 40 39 0,
 iL 41 40,
 iC 42 0,
 iO 43 (.nck (.t 42) none),
 iF 44 43 1,
 iL 45 44,
 iO 46 (.idx (.t 41) (.t 45) none 1 false),
 iO 47 (.bin .lss (.t 46) (.c (.int .u8 32))),
 iC 48 47,
 iG 49 (.cp (.t 0)) 48 false,
 iG 50 (.nck (.t 49) none) 48 false,
 iG 51 (.fa (.t 50) 0 none) 48 false,
 iG 52 (.ld (.t 51) none false none) 48 false,
 iG 53 (.cp (.t 0)) 48 false,
 iG 54 (.nck (.t 53) none) 48 false,
 iG 55 (.fa (.t 54) 1 none) 48 false,
 iG 56 (.ld (.t 55) none false none) 48 false,
 iG 57 (.idx (.t 52) (.t 56) none 1 false) 48 false,
 iG 58 (.bin .gtr (.t 57) (.c (.int .u8 126))) 48 false,
 iO 59 (.pick (.t 48) (.c (.bool true)) (.t 58))])
 (.cond (.t 59) (.reg [
 iM 60 3,
 iO 61 (.call n_lexer_fail [((.t 60), false), ((.c (.int .i64 1)), false)] false)])
 .skip))
 (.reg [
 iM 62 0,
 iO 63 (.nck (.t 62) none),
 iF 64 63 1,
 iL 65 64,
 iI 66 .add 65 1,
 iO 67 (.nck (.t 62) none),
 iF 68 67 1,
 iN (.st (.t 68) (.t 66) 1 false none)]))))
@[go_sem] def mk_136 : List Bool := [K0,K0,K0,K0,K0,K0,K0,K0,K0,K0,K0,K0,K0,K0,K0,K0,K1,K1,K1,K1,K1,K1,K1,K1,K1,K1,K1,K1,K1,K1,K1,K1,K1,K1,K1,K1,K1,K1,K1,K1,K1,K1,K1,K1,K1,K1,K1,K1,K1,K1,K1,K1,K1,K1,K1,K1,K1,K1,K1,K1,K1,K1,K1,K1,K1,K1,K1,K1,K1]
def lexer_scanner_text_l1 : AC := .pre mk_136 lexer_scanner_text_l1b
@[go_sem] theorem lexer_scanner_text_l1_go : LoopRule lexer_scanner_text_l1 lexer_scanner_text_l1b mk_136 := loopRule
@[go_sem] theorem lexer_scanner_text_l1_lp : LpRule lexer_scanner_text_l1 lexer_scanner_text_l1b mk_136 := lpRule
def lexer_scanner_text_k1b : AC := (.seq (.seq (.dreg [
 iC 69 0,
 iO 70 (.nck (.t 69) none),
 iF 71 70 1,
 iL 72 71,
 iC 73 0,
 iO 74 (.nck (.t 73) none),
 iF 75 74 0,
 iL 76 75,
 iO 77 (.len true (.t 76) none),
 iB 78 .eql 72 77])
 (.cond (.t 78) (.reg [
 iM 79 3,
 iO 80 (.call n_lexer_fail [((.t 79), false), ((.c (.int .i64 1)), false)] false)])
 .skip))
 (.seq (.dreg [
 iC 81 0,
 iO 82 (.nck (.t 81) none),
 iF 83 82 0,
 iL 84 83,
 iC 85 3,
 iI 86 .add 85 1,
 iC 87 0,
 iO 88 (.nck (.t 87) none),
 iF 89 88 1,
 iL 90 89,
 iO 91 (.slc none (.t 84) (some (.t 86)) (some (.t 90)) none),
 iC 4 91])
 (.seq (.reg [
 iM 92 0,
 iO 93 (.nck (.t 92) none),
 iF 94 93 1,
 iL 95 94,
 iI 96 .add 95 1,
 iO 97 (.nck (.t 92) none),
 iF 98 97 1,
 iN (.st (.t 98) (.t 96) 1 false none)])
 (.seq (.seq (.reg [
 iM 99 4,
 iO 100 (.len true (.t 99) none),
 iI 101 .gtr 100 200])
 (.cond (.t 101) (.reg [
 iM 102 3,
 iO 103 (.call n_lexer_fail [((.t 102), false), ((.c (.int .i64 5)), false)] false)])
 .skip))
 (.seq (.reg [
 iM 104 3,
 iM 105 4,
 iO 106 (.build [(.int .i64 0), (.int .i64 0), (.int .i64 0), (.str [])] [(0, 1, (.c (.int .i64 3))), (2, 1, (.t 104)), (3, 1, (.t 105))]),
 iN (.st (.t 2) (.t 106) 4 false (some 2))])
 .ret)))))
def lexer_scanner_text_k1 : AC := .pre mk_135 lexer_scanner_text_k1b
def a_lexer_scanner_text : AF := ⟨107, (.seq (.reg [
 iO 2 (.newbox [(.int .i64 0), (.int .i64 0), (.int .i64 0), (.str [])])])
 (.seq (.reg [
 iM 5 0,
 iO 6 (.nck (.t 5) none),
 iF 7 6 1,
 iL 8 7,
 iM 3 8])
 (.seq (.reg [
 iM 9 0,
 iO 10 (.nck (.t 9) none),
 iF 11 10 1,
 iL 12 11,
 iI 13 .add 12 1,
 iO 14 (.nck (.t 9) none),
 iF 15 14 1,
 iN (.st (.t 15) (.t 13) 1 false none)])
 (.seq (.blk 0 (.pre mk_134 (.loop lexer_scanner_text_l1)))
 lexer_scanner_text_k1)))), [.cell 2 (some 4)]⟩
def a_lexer_scanner_symbol : AF := ⟨97, (.seq (.reg [
 iO 2 (.newbox [(.int .i64 0), (.int .i64 0), (.int .i64 0), (.str [])])])
 (.seq (.reg [
 iM 5 0,
 iO 6 (.nck (.t 5) none),
 iF 7 6 1,
 iL 8 7,
 iM 3 8])
 (.seq (.reg [
 iK 4 (.int .i64 1)])
 (.seq (.seq (.reg [
 iM 9 0,
 iO 10 (.nck (.t 9) none),
 iF 11 10 0,
 iL 12 11,
 iM 13 3,
 iO 14 (.idx (.t 12) (.t 13) none 1 false)])
 (.blk 0 (.seq (.seq (.reg [
 iO 18 (.bin .eql (.t 14) (.c (.int .u8 59))),
 iM 17 18])
 (.cond (.t 17) .skip
 (.seq (.reg [
 iO 19 (.bin .eql (.t 14) (.c (.int .u8 44))),
 iM 17 19])
 (.cond (.t 17) .skip
 (.seq (.reg [
 iO 20 (.bin .eql (.t 14) (.c (.int .u8 43))),
 iM 17 20])
 (.cond (.t 17) .skip
 (.seq (.reg [
 iO 21 (.bin .eql (.t 14) (.c (.int .u8 45))),
 iM 17 21])
 (.cond (.t 17) .skip
 (.seq (.reg [
 iO 22 (.bin .eql (.t 14) (.c (.int .u8 58))),
 iM 17 22])
 (.cond (.t 17) .skip
 (.seq (.reg [
 iO 23 (.bin .eql (.t 14) (.c (.int .u8 40))),
 iM 17 23])
 (.cond (.t 17) .skip
 (.seq (.reg [
 iO 24 (.bin .eql (.t 14) (.c (.int .u8 41))),
 iM 17 24])
 (.cond (.t 17) .skip
 (.seq (.reg [
 iO 25 (.bin .eql (.t 14) (.c (.int .u8 61))),
 iM 17 25])
 (.cond (.t 17) .skip
 (.seq (.reg [
 iO 26 (.bin .eql (.t 14) (.c (.int .u8 42))),
 iM 17 26])
 (.cond (.t 17) .skip
 (.seq (.reg [
 iO 27 (.bin .eql (.t 14) (.c (.int .u8 47))),
 iM 17 27])
 (.cond (.t 17) .skip
 (.reg [
 iO 28 (.bin .eql (.t 14) (.c (.int .u8 37))),
 iM 17 28])))))))))))))))))))))
 (.cond (.t 17) .skip
 (.seq (.reg [
 iO 30 (.bin .eql (.t 14) (.c (.int .u8 60))),
 iM 29 30])
 (.cond (.t 29) (.seq (.reg [
 iM 31 3,
 iI 32 .add 31 1,
 iM 33 0,
 iO 34 (.nck (.t 33) none),
 iF 35 34 0,
 iL 36 35,
 iO 37 (.len true (.t 36) none),
 iB 38 .lss 32 37,
 iM 39 38,
 iG 40 (.mv (.t 0)) 39 true,
 iG 41 (.nck (.t 40) none) 39 true,
 iG 42 (.fa (.t 41) 0 none) 39 true,
 iG 43 (.ld (.t 42) none false none) 39 true,
 iG 44 (.mv (.t 3)) 39 true,
 iG 45 (.bin .add (.t 44) (.c (.int .i64 1))) 39 true,
 iG 46 (.idx (.t 43) (.t 45) none 1 false) 39 true,
 iG 47 (.bin .eql (.t 46) (.c (.int .u8 62))) 39 true,
 iG 48 (.mv (.t 47)) 39 true,
 iG 49 (.mv (.t 0)) 48 false,
 iG 50 (.nck (.t 49) none) 48 false,
 iG 51 (.fa (.t 50) 0 none) 48 false,
 iG 52 (.ld (.t 51) none false none) 48 false,
 iG 53 (.mv (.t 3)) 48 false,
 iG 54 (.bin .add (.t 53) (.c (.int .i64 1))) 48 false,
 iG 55 (.idx (.t 52) (.t 54) none 1 false) 48 false,
 iG 56 (.bin .eql (.t 55) (.c (.int .u8 61))) 48 false,
 iG 57 (.pick (.t 48) (.c (.bool true)) (.t 56)) 39 true,
 iO 58 (.pick (.t 39) (.t 57) (.c (.bool false)))])
 (.cond (.t 58) (.reg [
 iK 4 (.int .i64 2)])
 .skip))
 (.seq (.reg [
 iO 60 (.bin .eql (.t 14) (.c (.int .u8 62))),
 iM 59 60])
 (.cond (.t 59) (.seq (.reg [
 iM 61 3,
 iI 62 .add 61 1,
 iM 63 0,
 iO 64 (.nck (.t 63) none),
 iF 65 64 0,
 iL 66 65,
 iO 67 (.len true (.t 66) none),
 iB 68 .lss 62 67,
 iM 69 68,
 iG 70 (.mv (.t 0)) 69 true,
 iG 71 (.nck (.t 70) none) 69 true,
 iG 72 (.fa (.t 71) 0 none) 69 true,
 iG 73 (.ld (.t 72) none false none) 69 true,
 iG 74 (.mv (.t 3)) 69 true,
 iG 75 (.bin .add (.t 74) (.c (.int .i64 1))) 69 true,
 iG 76 (.idx (.t 73) (.t 75) none 1 false) 69 true,
 iG 77 (.bin .eql (.t 76) (.c (.int .u8 61))) 69 true,
 iO 78 (.pick (.t 69) (.t 77) (.c (.bool false)))])
 (.cond (.t 78) (.reg [
 iK 4 (.int .i64 2)])
 .skip))
 (.reg [
 iM 15 3,
 iO 16 (.call n_lexer_fail [((.t 15), false), ((.c (.int .i64 1)), false)] false)])))))))))
 (.seq (.reg [
 iM 79 0,
 iM 80 3,
 iM 81 4,
 iB 82 .add 80 81,
 iO 83 (.nck (.t 79) none),
 iF 84 83 1,
 iN (.st (.t 84) (.t 82) 1 false none)])
 (.seq (.dreg [
 iC 85 3,
 iC 86 0,
 iO 87 (.nck (.t 86) none),
 iF 88 87 0,
 iL 89 88,
 iC 90 3,
 iC 91 0,
 iO 92 (.nck (.t 91) none),
 iF 93 92 1,
 iL 94 93,
 iO 95 (.slc none (.t 89) (some (.t 90)) (some (.t 94)) none),
 iO 96 (.build [(.int .i64 0), (.int .i64 0), (.int .i64 0), (.str [])] [(0, 1, (.c (.int .i64 4))), (2, 1, (.t 85)), (3, 1, (.t 95))]),
 iN (.st (.t 2) (.t 96) 4 false (some 2))])
 .ret)))))), [.cell 2 (some 4)]⟩
def a_billingref23_Lower : AF := ⟨9, (.seq (.reg [
 iK 2 (.bool false)])
 (.seq (.reg [
 iM 3 0,
 iO 4 (.bin .geq (.t 3) (.c (.int .u8 97))),
 iM 5 4,
 iG 6 (.mv (.t 0)) 5 true,
 iG 7 (.bin .leq (.t 6) (.c (.int .u8 122))) 5 true,
 iO 8 (.pick (.t 5) (.t 7) (.c (.bool false))),
 iM 2 8])
 .ret)), [.tmp 2]⟩
def a_billingref23_Digit : AF := ⟨9, (.seq (.reg [
 iK 2 (.bool false)])
 (.seq (.reg [
 iM 3 0,
 iO 4 (.bin .geq (.t 3) (.c (.int .u8 48))),
 iM 5 4,
 iG 6 (.mv (.t 0)) 5 true,
 iG 7 (.bin .leq (.t 6) (.c (.int .u8 57))) 5 true,
 iO 8 (.pick (.t 5) (.t 7) (.c (.bool false))),
 iM 2 8])
 .ret)), [.tmp 2]⟩
def billingref25_zone_l1b : AC := (.seq (.seq (.reg [
 iM 4 3,
 iF 5 1 1,
 iL 6 5,
 iO 7 (.len false (.t 6) none),
 iB 8 .lss 4 7])
 (.cond (.t 8) .skip
 (.exit 0)))
 (.seq (.blk 1 (.seq (.reg [
 iF 11 1 1,
 iL 12 11,
 iM 13 3,
 iO 14 (.ia (.t 12) (.t 13) 1 none none),
 iL 15 14,
 iO 16 (.call n_billingref25_digits [((.t 15), false)] false),
 iO 17 (.un .not (.t 16))])
 (.cond (.t 17) (.seq (.reg [
 iK 2 (.bool false)])
 .ret)
 .skip)))
 (.reg [
 iM 9 3,
 iI 10 .add 9 1,
 iM 3 10])))
def billingref25_zone_l1 : AC := .pre mk_47 billingref25_zone_l1b
@[go_sem] theorem billingref25_zone_l1_go : LoopRule billingref25_zone_l1 billingref25_zone_l1b mk_47 := loopRule
@[go_sem] theorem billingref25_zone_l1_lp : LpRule billingref25_zone_l1 billingref25_zone_l1b mk_47 := lpRule
def billingref25_zone_k1b : AC := (.seq (.reg [
 iF 18 1 0,
 iL 19 18,
 iO 20 (.call n_billingref25_Name [((.t 19), false)] false),
 iM 21 20,
 iG 22 (.fa (.t 1) 1 none) 21 true,
 iG 23 (.ld (.t 22) none false none) 21 true,
 iG 24 (.len false (.t 23) none) 21 true,
 iG 25 (.bin .gtr (.t 24) (.c (.int .i64 0))) 21 true,
 iO 26 (.pick (.t 21) (.t 25) (.c (.bool false))),
 iM 2 26])
 .ret)
def billingref25_zone_k1 : AC := .pre mk_46 billingref25_zone_k1b
def a_billingref25_zone : AF := ⟨27, (.seq (.reg [
 iO 1 (.boxr (.t 0)),
 iK 2 (.bool false)])
 (.seq (.seq (.reg [
 iK 3 (.int .i64 0)])
 (.blk 0 (.pre mk_45 (.loop billingref25_zone_l1))))
 billingref25_zone_k1)), [.tmp 2]⟩
@[go_sem] def mk_137 : List Bool := [K1,K0,K1,K1,K1,K1,K1,K1,K1,K1,K1,K1,K1,K1,K1,K1,K1,K1,K1,K1,K1,K1,K1,K1,K1,K1,K1,K1,K1,K1,K1,K1,K1,K1,K1,K1,K1,K1,K1,K1,K1,K1,K1,K1,K1]
def billingref25_band_l1b : AC := (.seq (.seq (.reg [
 iM 5 3,
 iF 6 1 1,
 iL 7 6,
 iO 8 (.len false (.t 7) none),
 iB 9 .lss 5 8])
 (.cond (.t 9) .skip
 (.exit 0)))
 (.seq (.blk 1 (.seq (.reg [
 iF 12 1 1,
 iL 13 12,
 iM 14 3,
 iO 15 (.ia (.t 13) (.t 14) 3 none none),
 iO 16 (.ld (.t 15) (some 3) false none),
 iO 4 (.newbox [(.int .i64 0), (.int .i64 0), (.int .i64 0)]),
 iN (.st (.t 4) (.t 16) 3 false (some 4))])
 (.seq (.reg [
 iO 17 (.fa (.t 4) 0 (some 4)),
 iO 18 (.ld (.t 17) none false (some 4)),
 iI 19 .lss 18 1,
 iM 20 19,
 iG 21 (.fa (.t 4) 0 (some 4)) 20 false,
 iG 22 (.ld (.t 21) none false (some 4)) 20 false,
 iG 23 (.bin .gtr (.t 22) (.c (.int .i64 255))) 20 false,
 iO 24 (.pick (.t 20) (.c (.bool true)) (.t 23)),
 iM 25 24,
 iG 26 (.fa (.t 4) 1 (some 4)) 25 false,
 iG 27 (.ld (.t 26) none false (some 4)) 25 false,
 iG 28 (.bin .lss (.t 27) (.c (.int .i64 0))) 25 false,
 iO 29 (.pick (.t 25) (.c (.bool true)) (.t 28)),
 iM 30 29,
 iG 31 (.fa (.t 4) 1 (some 4)) 30 false,
 iG 32 (.ld (.t 31) none false (some 4)) 30 false,
 iG 33 (.bin .gtr (.t 32) (.c (.int .i64 1439))) 30 false,
 iO 34 (.pick (.t 30) (.c (.bool true)) (.t 33)),
 iM 35 34,
 iG 36 (.fa (.t 4) 2 (some 4)) 35 false,
 iG 37 (.ld (.t 36) none false (some 4)) 35 false,
 iG 38 (.bin .lss (.t 37) (.c (.int .i64 0))) 35 false,
 iO 39 (.pick (.t 35) (.c (.bool true)) (.t 38)),
 iM 40 39,
 iG 41 (.fa (.t 4) 2 (some 4)) 40 false,
 iG 42 (.ld (.t 41) none false (some 4)) 40 false,
 iG 43 (.bin .gtr (.t 42) (.c (.int .i64 1440))) 40 false,
 iO 44 (.pick (.t 40) (.c (.bool true)) (.t 43))])
 (.cond (.t 44) (.seq (.reg [
 iK 2 (.bool false)])
 .ret)
 .skip))))
 (.reg [
 iM 10 3,
 iI 11 .add 10 1,
 iM 3 11])))
@[go_sem] def mk_138 : List Bool := [K0,K0,K1,K0,K1,K1,K1,K1,K1,K1,K1,K1,K1,K1,K1,K1,K1,K1,K1,K1,K1,K1,K1,K1,K1,K1,K1,K1,K1,K1,K1,K1,K1,K1,K1,K1,K1,K1,K1,K1,K1,K1,K1,K1,K1]
def billingref25_band_l1 : AC := .pre mk_138 billingref25_band_l1b
@[go_sem] theorem billingref25_band_l1_go : LoopRule billingref25_band_l1 billingref25_band_l1b mk_138 := loopRule
@[go_sem] theorem billingref25_band_l1_lp : LpRule billingref25_band_l1 billingref25_band_l1b mk_138 := lpRule
def billingref25_band_k1b : AC := (.seq (.reg [
 iF 45 1 0,
 iL 46 45,
 iO 47 (.call n_billingref25_Name [((.t 46), false)] false),
 iM 2 47])
 .ret)
def billingref25_band_k1 : AC := .pre mk_137 billingref25_band_k1b
def a_billingref25_band : AF := ⟨48, (.seq (.reg [
 iO 1 (.boxr (.t 0)),
 iK 2 (.bool false)])
 (.seq (.seq (.reg [
 iK 3 (.int .i64 0)])
 (.blk 0 (.pre mk_45 (.loop billingref25_band_l1))))
 billingref25_band_k1)), [.tmp 2]⟩
@[go_sem] def mk_139 : List Bool := [K1,K0,K1,K1,K1,K1,K1,K1,K1,K1,K1,K1,K1,K1,K1,K1,K1,K1,K1,K1,K1,K1,K1,K1,K1,K1,K1,K1,K1,K1,K1,K1,K1,K1,K1,K1,K1,K1,K1]
def billingref25_rate_l1b : AC := (.seq (.seq (.reg [
 iM 4 3,
 iF 5 1 4,
 iL 6 5,
 iO 7 (.len false (.t 6) none),
 iB 8 .lss 4 7])
 (.cond (.t 8) .skip
 (.exit 0)))
 (.seq (.blk 1 (.seq (.reg [
 iF 11 1 4,
 iL 12 11,
 iM 13 3,
 iO 14 (.ia (.t 12) (.t 13) 3 none none),
 iF 15 14 0,
 iL 16 15,
 iO 17 (.call n_billingref25_number [((.t 16), false)] false),
 iO 18 (.un .not (.t 17)),
 iM 19 18,
 iG 20 (.fa (.t 1) 4 none) 19 false,
 iG 21 (.ld (.t 20) none false none) 19 false,
 iG 22 (.mv (.t 3)) 19 false,
 iG 23 (.ia (.t 21) (.t 22) 3 none none) 19 false,
 iG 24 (.fa (.t 23) 1 none) 19 false,
 iG 25 (.ld (.t 24) none false none) 19 false,
 iG 26 (.call n_billingref25_number [((.t 25), false)] false) 19 false,
 iG 27 (.un .not (.t 26)) 19 false,
 iO 28 (.pick (.t 19) (.c (.bool true)) (.t 27)),
 iM 29 28,
 iG 30 (.fa (.t 1) 4 none) 29 false,
 iG 31 (.ld (.t 30) none false none) 29 false,
 iG 32 (.mv (.t 3)) 29 false,
 iG 33 (.ia (.t 31) (.t 32) 3 none none) 29 false,
 iG 34 (.fa (.t 33) 2 none) 29 false,
 iG 35 (.ld (.t 34) none false none) 29 false,
 iG 36 (.call n_billingref25_number [((.t 35), false)] false) 29 false,
 iG 37 (.un .not (.t 36)) 29 false,
 iO 38 (.pick (.t 29) (.c (.bool true)) (.t 37))])
 (.cond (.t 38) (.seq (.reg [
 iK 2 (.bool false)])
 .ret)
 .skip)))
 (.reg [
 iM 9 3,
 iI 10 .add 9 1,
 iM 3 10])))
@[go_sem] def mk_140 : List Bool := [K0,K0,K1,K0,K1,K1,K1,K1,K1,K1,K1,K1,K1,K1,K1,K1,K1,K1,K1,K1,K1,K1,K1,K1,K1,K1,K1,K1,K1,K1,K1,K1,K1,K1,K1,K1,K1,K1,K1]
def billingref25_rate_l1 : AC := .pre mk_140 billingref25_rate_l1b
@[go_sem] theorem billingref25_rate_l1_go : LoopRule billingref25_rate_l1 billingref25_rate_l1b mk_140 := loopRule
@[go_sem] theorem billingref25_rate_l1_lp : LpRule billingref25_rate_l1 billingref25_rate_l1b mk_140 := lpRule
def billingref25_rate_k1b : AC := (.seq (.reg [
 iF 39 1 0,
 iL 40 39,
 iI 41 .geq 40 1,
 iM 42 41,
 iG 43 (.fa (.t 1) 0 none) 42 true,
 iG 44 (.ld (.t 43) none false none) 42 true,
 iG 45 (.bin .lss (.t 44) (.c (.int .i64 5))) 42 true,
 iO 46 (.pick (.t 42) (.t 45) (.c (.bool false))),
 iM 47 46,
 iG 48 (.fa (.t 1) 1 none) 47 true,
 iG 49 (.ld (.t 48) none false none) 47 true,
 iG 50 (.bin .eql (.t 49) (.c (.str []))) 47 true,
 iG 51 (.mv (.t 50)) 47 true,
 iG 52 (.fa (.t 1) 1 none) 51 false,
 iG 53 (.ld (.t 52) none false none) 51 false,
 iG 54 (.call n_billingref25_Name [((.t 53), false)] false) 51 false,
 iG 55 (.pick (.t 51) (.c (.bool true)) (.t 54)) 47 true,
 iO 56 (.pick (.t 47) (.t 55) (.c (.bool false))),
 iM 57 56,
 iG 58 (.fa (.t 1) 2 none) 57 true,
 iG 59 (.ld (.t 58) none false none) 57 true,
 iG 60 (.bin .eql (.t 59) (.c (.str []))) 57 true,
 iG 61 (.mv (.t 60)) 57 true,
 iG 62 (.fa (.t 1) 2 none) 61 false,
 iG 63 (.ld (.t 62) none false none) 61 false,
 iG 64 (.call n_billingref25_Name [((.t 63), false)] false) 61 false,
 iG 65 (.pick (.t 61) (.c (.bool true)) (.t 64)) 57 true,
 iO 66 (.pick (.t 57) (.t 65) (.c (.bool false))),
 iM 67 66,
 iG 68 (.fa (.t 1) 3 none) 67 true,
 iG 69 (.ld (.t 68) none false none) 67 true,
 iG 70 (.call n_billingref25_number [((.t 69), false)] false) 67 true,
 iO 71 (.pick (.t 67) (.t 70) (.c (.bool false))),
 iM 72 71,
 iG 73 (.fa (.t 1) 4 none) 72 true,
 iG 74 (.ld (.t 73) none false none) 72 true,
 iG 75 (.len false (.t 74) none) 72 true,
 iG 76 (.bin .gtr (.t 75) (.c (.int .i64 0))) 72 true,
 iO 77 (.pick (.t 72) (.t 76) (.c (.bool false))),
 iM 2 77])
 .ret)
def billingref25_rate_k1 : AC := .pre mk_139 billingref25_rate_k1b
def a_billingref25_rate : AF := ⟨78, (.seq (.reg [
 iO 1 (.boxr (.t 0)),
 iK 2 (.bool false)])
 (.seq (.seq (.reg [
 iK 3 (.int .i64 0)])
 (.blk 0 (.pre mk_45 (.loop billingref25_rate_l1))))
 billingref25_rate_k1)), [.tmp 2]⟩
def a_billingref25_discount : AF := ⟨16, (.seq (.reg [
 iO 1 (.boxr (.t 0)),
 iK 2 (.bool false)])
 (.seq (.reg [
 iF 3 1 0,
 iL 4 3,
 iO 5 (.call n_billingref25_Name [((.t 4), false)] false),
 iM 6 5,
 iG 7 (.fa (.t 1) 5 none) 6 true,
 iG 8 (.ld (.t 7) none false none) 6 true,
 iG 9 (.call n_billingref25_number [((.t 8), false)] false) 6 true,
 iO 10 (.pick (.t 6) (.t 9) (.c (.bool false))),
 iM 11 10,
 iG 12 (.fa (.t 1) 1 none) 11 true,
 iG 13 (.ld (.t 12) (some 4) false none) 11 true,
 iG 14 (.call n_billingref25_Printable [((.t 13), false)] false) 11 true,
 iO 15 (.pick (.t 11) (.t 14) (.c (.bool false))),
 iM 2 15])
 .ret)), [.tmp 2]⟩
@[go_sem] def mk_141 : List Bool := [K0,K0,K0,K0,K1,K1,K1,K1,K1,K1,K1,K1,K1,K1,K1,K1,K1,K1,K1,K1,K1,K1]
@[go_sem] def mk_142 : List Bool := [K1,K0,K1,K1,K1,K1,K1,K1,K1,K1,K1,K1,K1,K1,K1,K1,K1,K1,K1,K1,K1,K1,K1,K1,K1,K1,K1,K1,K1,K1,K1,K1,K1,K1,K1,K1,K1,K1,K1,K1,K1,K1,K1,K1,K1,K1]
def billingref25_Name_l1b : AC := (.seq (.seq (.reg [
 iM 22 3,
 iM 23 0,
 iO 24 (.len true (.t 23) none),
 iB 25 .lss 22 24])
 (.cond (.t 25) .skip
 (.exit 0)))
 (.seq (.blk 1 (.seq (.reg [
 iM 28 0,
 iM 29 3,
 iO 30 (.idx (.t 28) (.t 29) none 1 false),
 iO 31 (.call n_billingref23_Lower [((.t 30), false)] false),
 iO 32 (.un .not (.t 31)),
 iM 33 32,
 iG 34 (.mv (.t 0)) 33 true,
 iG 35 (.mv (.t 3)) 33 true,
 iG 36 (.idx (.t 34) (.t 35) none 1 false) 33 true,
 iG 37 (.call n_billingref23_Digit [((.t 36), false)] false) 33 true,
 iG 38 (.un .not (.t 37)) 33 true,
 iO 39 (.pick (.t 33) (.t 38) (.c (.bool false))),
 iM 40 39,
 iG 41 (.mv (.t 0)) 40 true,
 iG 42 (.mv (.t 3)) 40 true,
 iG 43 (.idx (.t 41) (.t 42) none 1 false) 40 true,
 iG 44 (.bin .neq (.t 43) (.c (.int .u8 45))) 40 true,
 iO 45 (.pick (.t 40) (.t 44) (.c (.bool false)))])
 (.cond (.t 45) (.seq (.reg [
 iK 2 (.bool false)])
 .ret)
 .skip)))
 (.reg [
 iM 26 3,
 iI 27 .add 26 1,
 iM 3 27])))
@[go_sem] def mk_143 : List Bool := [K0,K0,K1,K0,K0,K0,K0,K0,K0,K0,K0,K0,K0,K0,K0,K0,K0,K0,K0,K0,K0,K0,K1,K1,K1,K1,K1,K1,K1,K1,K1,K1,K1,K1,K1,K1,K1,K1,K1,K1,K1,K1,K1,K1,K1,K1]
def billingref25_Name_l1 : AC := .pre mk_143 billingref25_Name_l1b
@[go_sem] theorem billingref25_Name_l1_go : LoopRule billingref25_Name_l1 billingref25_Name_l1b mk_143 := loopRule
@[go_sem] theorem billingref25_Name_l1_lp : LpRule billingref25_Name_l1 billingref25_Name_l1b mk_143 := lpRule
def billingref25_Name_k1b : AC := (.seq (.reg [
 iK 2 (.bool true)])
 .ret)
def billingref25_Name_k1 : AC := .pre mk_142 billingref25_Name_k1b
def a_billingref25_Name : AF := ⟨46, (.seq (.reg [
 iK 2 (.bool false)])
 (.seq (.seq (.reg [
 iM 4 0,
 iO 5 (.len true (.t 4) none),
 iI 6 .lss 5 1,
 iM 7 6,
 iG 8 (.mv (.t 0)) 7 false,
 iG 9 (.len true (.t 8) none) 7 false,
 iG 10 (.bin .gtr (.t 9) (.c (.int .i64 24))) 7 false,
 iO 11 (.pick (.t 7) (.c (.bool true)) (.t 10)),
 iM 12 11,
 iG 13 (.mv (.t 0)) 12 false,
 iG 14 (.idx (.t 13) (.c (.int .i64 0)) none 1 false) 12 false,
 iG 15 (.call n_billingref23_Lower [((.t 14), false)] false) 12 false,
 iG 16 (.un .not (.t 15)) 12 false,
 iO 17 (.pick (.t 12) (.c (.bool true)) (.t 16)),
 iM 18 17,
 iG 19 (.mv (.t 0)) 18 false,
 iG 20 (.call n_billingref23_Keyword [((.t 19), false)] false) 18 false,
 iO 21 (.pick (.t 18) (.c (.bool true)) (.t 20))])
 (.cond (.t 21) (.seq (.reg [
 iK 2 (.bool false)])
 .ret)
 .skip))
 (.seq (.seq (.reg [
 iK 3 (.int .i64 0)])
 (.blk 0 (.pre mk_141 (.loop billingref25_Name_l1))))
 billingref25_Name_k1))), [.tmp 2]⟩
@[go_sem] def mk_144 : List Bool := [K0,K0,K0,K0,K0,K0,K0,K0,K0,K0,K0,K0,K0,K0,K0,K0,K0,K1,K1,K1,K1,K1,K1,K1,K1,K1,K1,K1,K1]
@[go_sem] def mk_145 : List Bool := [K0,K0,K1,K0,K0,K1,K1,K1,K1,K1,K1,K1,K1,K1,K1,K1,K1]
def billingref25_Date_l1b : AC := (.seq (.seq (.reg [
 iM 5 0,
 iM 6 3,
 iO 7 (.call n_billingref24_Length [((.t 6), false), ((.c (.int .i64 2)), false)] false),
 iO 8 (.bin .add (.c (.int .i64 337)) (.t 7)),
 iB 9 .geq 5 8])
 (.cond (.t 9) .skip
 (.exit 0)))
 (.blk 1 (.seq (.reg [
 iM 10 0,
 iI 11 .sub 10 337,
 iM 12 3,
 iO 13 (.call n_billingref24_Length [((.t 12), false), ((.c (.int .i64 2)), false)] false),
 iB 14 .sub 11 13,
 iM 0 14])
 (.reg [
 iM 15 3,
 iI 16 .add 15 1,
 iM 3 16]))))
@[go_sem] def mk_146 : List Bool := [K0,K0,K0,K0,K0,K1,K1,K1,K1,K1,K1,K1,K1,K1,K1,K1,K1]
def billingref25_Date_l1 : AC := .pre mk_146 billingref25_Date_l1b
@[go_sem] theorem billingref25_Date_l1_go : LoopRule billingref25_Date_l1 billingref25_Date_l1b mk_146 := loopRule
@[go_sem] theorem billingref25_Date_l1_lp : LpRule billingref25_Date_l1 billingref25_Date_l1b mk_146 := lpRule
def billingref25_Date_l2b : AC := (.seq (.seq (.reg [
 iM 17 0,
 iM 18 3,
 iM 19 4,
 iO 20 (.call n_billingref24_Length [((.t 18), false), ((.t 19), false)] false),
 iB 21 .geq 17 20])
 (.cond (.t 21) .skip
 (.exit 2)))
 (.blk 3 (.seq (.reg [
 iM 22 0,
 iM 23 3,
 iM 24 4,
 iO 25 (.call n_billingref24_Length [((.t 23), false), ((.t 24), false)] false),
 iB 26 .sub 22 25,
 iM 0 26])
 (.reg [
 iM 27 4,
 iI 28 .add 27 1,
 iM 4 28]))))
def billingref25_Date_l2 : AC := .pre mk_144 billingref25_Date_l2b
@[go_sem] theorem billingref25_Date_l2_go : LoopRule billingref25_Date_l2 billingref25_Date_l2b mk_144 := loopRule
@[go_sem] theorem billingref25_Date_l2_lp : LpRule billingref25_Date_l2 billingref25_Date_l2b mk_144 := lpRule
def billingref25_Date_k1b : AC := (.seq (.reg [
 iM 29 3,
 iO 30 (.call n_billingref25_Decimal [((.t 29), false)] false),
 iO 31 (.bin .add (.t 30) (.c (.str [45]))),
 iM 32 4,
 iO 33 (.call n_billingref25_Two [((.t 32), false)] false),
 iB 34 .add 31 33,
 iO 35 (.bin .add (.t 34) (.c (.str [45]))),
 iM 36 0,
 iI 37 .add 36 1,
 iO 38 (.call n_billingref25_Two [((.t 37), false)] false),
 iB 39 .add 35 38,
 iM 2 39])
 .ret)
def billingref25_Date_k1 : AC := .pre mk_144 billingref25_Date_k1b
def billingref25_Date_k2b : AC := (.seq (.blk 2 (.loop billingref25_Date_l2))
 billingref25_Date_k1)
def billingref25_Date_k2 : AC := .pre mk_145 billingref25_Date_k2b
def a_billingref25_Date : AF := ⟨40, (.seq (.reg [
 iK 2 (.str [])])
 (.seq (.reg [
 iK 3 (.int .i64 2000),
 iK 4 (.int .i64 1)])
 (.seq (.blk 0 (.pre mk_28 (.loop billingref25_Date_l1)))
 billingref25_Date_k2))), [.tmp 2]⟩
def a_billingref25_Clock : AF := ⟨11, (.seq (.reg [
 iK 2 (.str [])])
 (.seq (.reg [
 iM 3 0,
 iI 4 .quo 3 60,
 iO 5 (.call n_billingref25_Minute [((.t 4), false)] false),
 iO 6 (.bin .add (.t 5) (.c (.str [58]))),
 iM 7 0,
 iI 8 .rem 7 60,
 iO 9 (.call n_billingref25_Two [((.t 8), false)] false),
 iB 10 .add 6 9,
 iM 2 10])
 .ret)), [.tmp 2]⟩
@[go_sem] def mk_147 : List Bool := [K1,K0,K1,K0,K0,K0,K1]
def billingref25_slot_l1b : AC := (.seq (.seq (.reg [
 iM 7 5,
 iO 8 (.al 4),
 iO 9 (.len false (.t 8) (some 4)),
 iB 10 .lss 7 9])
 (.cond (.t 10) .skip
 (.exit 0)))
 (.seq (.blk 1 (.seq (.reg [
 iF 13 1 0,
 iL 14 13,
 iM 15 5,
 iB 16 .shr 14 15,
 iI 17 .rem 16 2,
 iI 18 .eql 17 1])
 (.cond (.t 18) (.seq (.seq (.reg [
 iM 19 3,
 iO 20 (.bin .neq (.t 19) (.c (.str [])))])
 (.cond (.t 20) (.reg [
 iM 21 3,
 iO 22 (.bin .add (.t 21) (.c (.str [43]))),
 iM 3 22])
 .skip))
 (.reg [
 iM 23 3,
 iO 24 (.al 4),
 iM 25 5,
 iO 26 (.ia (.t 24) (.t 25) 1 none (some 4)),
 iL 27 26,
 iB 28 .add 23 27,
 iM 3 28]))
 .skip)))
 (.reg [
 iM 11 5,
 iI 12 .add 11 1,
 iM 5 12])))
def billingref25_slot_l1 : AC := .pre mk_67 billingref25_slot_l1b
@[go_sem] theorem billingref25_slot_l1_go : LoopRule billingref25_slot_l1 billingref25_slot_l1b mk_67 := loopRule
@[go_sem] theorem billingref25_slot_l1_lp : LpRule billingref25_slot_l1 billingref25_slot_l1b mk_67 := lpRule
def billingref25_slot_k1b : AC := (.seq (.dreg [
 iC 29 3,
 iO 30 (.bin .add (.t 29) (.c (.str [32]))),
 iF 31 1 1,
 iL 32 31,
 iO 33 (.call n_billingref25_Minute [((.t 32), false)] false),
 iB 34 .add 30 33,
 iO 35 (.bin .add (.t 34) (.c (.str [45]))),
 iF 36 1 2,
 iL 37 36,
 iO 38 (.call n_billingref25_Minute [((.t 37), false)] false),
 iB 39 .add 35 38,
 iC 2 39])
 .ret)
def billingref25_slot_k1 : AC := .pre mk_96 billingref25_slot_k1b
def a_billingref25_slot : AF := ⟨40, (.seq (.reg [
 iO 1 (.boxr (.t 0)),
 iK 2 (.str [])])
 (.seq (.reg [
 iK 3 (.str [])])
 (.seq (.reg [
 iO 6 (.call n_billingref24_Days [] false),
 iS 6,
 iM 4 6,
 iS 4])
 (.seq (.seq (.reg [
 iK 5 (.int .i64 0)])
 (.blk 0 (.pre mk_147 (.loop billingref25_slot_l1))))
 billingref25_slot_k1)))), [.tmp 2]⟩
def a_billingref24_Kinds : AF := ⟨2, (.seq (.reg [
 iK 0 (.sl true 1 [])])
 (.pre mk_45 (.seq (.reg [
 iO 1 (.bsl 1 4 (.str []) [(0, (.c (.str [118, 111, 105, 99, 101]))), (1, (.c (.str [116, 101, 120, 116]))), (2, (.c (.str [100, 97, 116, 97]))), (3, (.c (.str [99, 111, 110, 116, 101, 110, 116])))]),
 iM 0 1,
 iS 0])
 .ret))), [.tmp 0]⟩
def a_billingref25_any : AF := ⟨6, (.seq (.reg [
 iK 2 (.str [])])
 (.seq (.seq (.reg [
 iM 3 0,
 iO 4 (.bin .eql (.t 3) (.c (.str [])))])
 (.cond (.t 4) (.seq (.reg [
 iK 2 (.str [97, 110, 121])])
 .ret)
 .skip))
 (.seq (.reg [
 iM 5 0,
 iM 2 5])
 .ret))), [.tmp 2]⟩
def a_billingref25_step : AF := ⟨23, (.seq (.reg [
 iO 1 (.boxr (.t 0)),
 iK 2 (.str [])])
 (.seq (.reg [
 iK 3 (.str [])])
 (.seq (.seq (.reg [
 iF 4 1 0,
 iL 5 4,
 iI 6 .neq 5 0])
 (.cond (.t 6) (.reg [
 iF 7 1 0,
 iL 8 7,
 iO 9 (.call n_billingref25_Decimal [((.t 8), false)] false),
 iO 10 (.bin .add (.c (.str [117, 112, 116, 111, 32])) (.t 9)),
 iO 11 (.bin .add (.t 10) (.c (.str [32]))),
 iM 3 11])
 .skip))
 (.seq (.dreg [
 iC 12 3,
 iO 13 (.bin .add (.t 12) (.c (.str [112, 101, 114, 32]))),
 iF 14 1 1,
 iL 15 14,
 iO 16 (.call n_billingref25_Decimal [((.t 15), false)] false),
 iB 17 .add 13 16,
 iO 18 (.bin .add (.t 17) (.c (.str [32, 97, 116, 32]))),
 iF 19 1 2,
 iL 20 19,
 iO 21 (.call n_billingref25_Decimal [((.t 20), false)] false),
 iB 22 .add 18 21,
 iC 2 22])
 .ret)))), [.tmp 2]⟩
def a_billingref25_operand : AF := ⟨16, (.seq (.reg [
 iO 2 (.boxr (.t 0)),
 iK 4 (.str [])])
 (.seq (.seq (.reg [
 iF 5 2 0,
 iL 6 5,
 iO 7 (.call n_billingref25_Strength [((.t 6), false)] false),
 iM 8 1,
 iB 9 .lss 7 8])
 (.cond (.t 9) (.seq (.reg [
 iO 10 (.ld (.t 2) (some 4) false none),
 iO 11 (.call n_billingref25_show [((.t 10), false)] false),
 iO 12 (.bin .add (.c (.str [40])) (.t 11)),
 iO 13 (.bin .add (.t 12) (.c (.str [41]))),
 iM 4 13])
 .ret)
 .skip))
 (.seq (.reg [
 iO 14 (.ld (.t 2) (some 4) false none),
 iO 15 (.call n_billingref25_show [((.t 14), false)] false),
 iM 4 15])
 .ret))), [.tmp 4]⟩
def a_billingref25_Strength : AF := ⟨22, (.seq (.reg [
 iK 2 (.int .i64 0)])
 (.seq (.seq (.reg [
 iM 3 0])
 (.blk 0 (.seq (.reg [
 iI 5 .eql 3 6,
 iM 4 5])
 (.cond (.t 4) (.seq (.reg [
 iK 2 (.int .i64 1)])
 .ret)
 (.seq (.reg [
 iI 7 .eql 3 5,
 iM 6 7])
 (.cond (.t 6) (.seq (.reg [
 iK 2 (.int .i64 2)])
 .ret)
 (.seq (.reg [
 iI 9 .eql 3 4,
 iM 8 9])
 (.cond (.t 8) (.seq (.reg [
 iK 2 (.int .i64 3)])
 .ret)
 (.seq (.seq (.reg [
 iI 11 .eql 3 7,
 iM 10 11])
 (.cond (.t 10) .skip
 (.seq (.reg [
 iI 12 .eql 3 8,
 iM 10 12])
 (.cond (.t 10) .skip
 (.seq (.reg [
 iI 13 .eql 3 9,
 iM 10 13])
 (.cond (.t 10) .skip
 (.reg [
 iI 14 .eql 3 10,
 iM 10 14])))))))
 (.cond (.t 10) (.seq (.reg [
 iK 2 (.int .i64 4)])
 .ret)
 (.seq (.seq (.reg [
 iI 16 .eql 3 11,
 iM 15 16])
 (.cond (.t 15) .skip
 (.reg [
 iI 17 .eql 3 12,
 iM 15 17])))
 (.cond (.t 15) (.seq (.reg [
 iK 2 (.int .i64 5)])
 .ret)
 (.seq (.seq (.reg [
 iI 19 .eql 3 13,
 iM 18 19])
 (.cond (.t 18) .skip
 (.seq (.reg [
 iI 20 .eql 3 14,
 iM 18 20])
 (.cond (.t 18) .skip
 (.reg [
 iI 21 .eql 3 15,
 iM 18 21])))))
 (.cond (.t 18) (.seq (.reg [
 iK 2 (.int .i64 6)])
 .ret)
 .skip))))))))))))))
 (.seq (.reg [
 iK 2 (.int .i64 7)])
 .ret))), [.tmp 2]⟩
def a_billingref25_Symbol : AF := ⟨24, (.seq (.reg [
 iK 2 (.str [])])
 (.seq (.seq (.reg [
 iM 3 0])
 (.blk 0 (.seq (.reg [
 iI 5 .eql 3 6,
 iM 4 5])
 (.cond (.t 4) (.seq (.reg [
 iK 2 (.str [111, 114])])
 .ret)
 (.seq (.reg [
 iI 7 .eql 3 5,
 iM 6 7])
 (.cond (.t 6) (.seq (.reg [
 iK 2 (.str [97, 110, 100])])
 .ret)
 (.seq (.reg [
 iI 9 .eql 3 7,
 iM 8 9])
 (.cond (.t 8) (.seq (.reg [
 iK 2 (.str [61])])
 .ret)
 (.seq (.reg [
 iI 11 .eql 3 8,
 iM 10 11])
 (.cond (.t 10) (.seq (.reg [
 iK 2 (.str [60, 62])])
 .ret)
 (.seq (.reg [
 iI 13 .eql 3 9,
 iM 12 13])
 (.cond (.t 12) (.seq (.reg [
 iK 2 (.str [60])])
 .ret)
 (.seq (.reg [
 iI 15 .eql 3 10,
 iM 14 15])
 (.cond (.t 14) (.seq (.reg [
 iK 2 (.str [60, 61])])
 .ret)
 (.seq (.reg [
 iI 17 .eql 3 11,
 iM 16 17])
 (.cond (.t 16) (.seq (.reg [
 iK 2 (.str [43])])
 .ret)
 (.seq (.reg [
 iI 19 .eql 3 12,
 iM 18 19])
 (.cond (.t 18) (.seq (.reg [
 iK 2 (.str [45])])
 .ret)
 (.seq (.reg [
 iI 21 .eql 3 13,
 iM 20 21])
 (.cond (.t 20) (.seq (.reg [
 iK 2 (.str [42])])
 .ret)
 (.seq (.reg [
 iI 23 .eql 3 14,
 iM 22 23])
 (.cond (.t 22) (.seq (.reg [
 iK 2 (.str [47])])
 .ret)
 .skip))))))))))))))))))))))
 (.seq (.reg [
 iK 2 (.str [37])])
 .ret))), [.tmp 2]⟩
def a_billingref25_Arity : AF := ⟨17, (.seq (.reg [
 iK 2 (.int .i64 0)])
 (.seq (.seq (.reg [
 iM 3 0,
 iI 4 .geq 3 1,
 iM 5 4,
 iG 6 (.mv (.t 0)) 5 true,
 iG 7 (.bin .leq (.t 6) (.c (.int .i64 3))) 5 true,
 iO 8 (.pick (.t 5) (.t 7) (.c (.bool false)))])
 (.cond (.t 8) (.seq (.reg [
 iK 2 (.int .i64 0)])
 .ret)
 .skip))
 (.seq (.seq (.reg [
 iM 9 0,
 iI 10 .eql 9 4])
 (.cond (.t 10) (.seq (.reg [
 iK 2 (.int .i64 1)])
 .ret)
 .skip))
 (.seq (.seq (.reg [
 iM 11 0,
 iI 12 .gtr 11 4,
 iM 13 12,
 iG 14 (.mv (.t 0)) 13 true,
 iG 15 (.bin .lss (.t 14) (.c (.int .i64 16))) 13 true,
 iO 16 (.pick (.t 13) (.t 15) (.c (.bool false)))])
 (.cond (.t 16) (.seq (.reg [
 iK 2 (.int .i64 2)])
 .ret)
 .skip))
 (.seq (.reg [
 iK 2 (.int .i64 (-1))])
 .ret))))), [.tmp 2]⟩
def a_billingref25_own : AF := ⟨40, (.seq (.reg [
 iO 1 (.boxr (.t 0)),
 iK 2 (.bool false)])
 (.seq (.seq (.reg [
 iF 3 1 0,
 iL 4 3,
 iI 5 .eql 4 1])
 (.cond (.t 5) (.seq (.reg [
 iF 6 1 1,
 iL 7 6,
 iO 8 (.call n_billingref25_number [((.t 7), false)] false),
 iM 9 8,
 iG 10 (.fa (.t 1) 2 none) 9 true,
 iG 11 (.ld (.t 10) none false none) 9 true,
 iG 12 (.bin .eql (.t 11) (.c (.str []))) 9 true,
 iO 13 (.pick (.t 9) (.t 12) (.c (.bool false))),
 iM 2 13])
 .ret)
 .skip))
 (.seq (.seq (.reg [
 iF 14 1 1,
 iL 15 14,
 iI 16 .neq 15 0])
 (.cond (.t 16) (.seq (.reg [
 iK 2 (.bool false)])
 .ret)
 .skip))
 (.seq (.seq (.reg [
 iF 17 1 0,
 iL 18 17,
 iI 19 .eql 18 2])
 (.cond (.t 19) (.seq (.reg [
 iF 20 1 2,
 iL 21 20,
 iO 22 (.call n_billingref23_Quote [((.t 21), false)] false),
 iO 23 (.bin .neq (.t 22) (.c (.str []))),
 iM 2 23])
 .ret)
 .skip))
 (.seq (.seq (.reg [
 iF 24 1 0,
 iL 25 24,
 iI 26 .eql 25 3])
 (.cond (.t 26) (.seq (.dreg [
 iF 27 1 2,
 iL 28 27,
 iO 29 (.call n_billingref25_Name [((.t 28), false)] false),
 iC 30 29,
 iG 31 (.call n_billingref24_Attributes [] false) 30 false,
 iG 32 (.fa (.t 1) 2 none) 30 false,
 iG 33 (.ld (.t 32) none false none) 30 false,
 iG 34 (.call n_billingref24_Place [((.t 31), true), ((.t 33), false)] false) 30 false,
 iG 35 (.bin .geq (.t 34) (.c (.int .i64 0))) 30 false,
 iO 36 (.pick (.t 30) (.c (.bool true)) (.t 35)),
 iC 2 36])
 .ret)
 .skip))
 (.seq (.reg [
 iF 37 1 2,
 iL 38 37,
 iO 39 (.bin .eql (.t 38) (.c (.str []))),
 iM 2 39])
 .ret)))))), [.tmp 2]⟩
def a_printer_nameOrNone : AF := ⟨9, (.seq (.reg [
 iK 2 (.bool false)])
 (.seq (.reg [
 iM 3 0,
 iO 4 (.bin .eql (.t 3) (.c (.str []))),
 iM 5 4,
 iG 6 (.mv (.t 0)) 5 false,
 iG 7 (.call n_printer_name [((.t 6), false)] false) 5 false,
 iO 8 (.pick (.t 5) (.c (.bool true)) (.t 7)),
 iM 2 8])
 .ret)), [.tmp 2]⟩
def a_calendar_before : AF := ⟨26, (.seq (.reg [
 iK 2 (.int .i64 0)])
 (.seq (.reg [
 iM 5 0,
 iI 6 .sub 5 2000,
 iM 3 6])
 (.seq (.reg [
 iM 7 3,
 iO 8 (.bin .mul (.c (.int .i64 365)) (.t 7)),
 iM 4 8])
 (.seq (.seq (.reg [
 iM 9 3,
 iI 10 .gtr 9 0])
 (.cond (.t 10) (.reg [
 iM 11 4,
 iM 12 3,
 iI 13 .sub 12 1,
 iI 14 .quo 13 4,
 iM 15 3,
 iI 16 .sub 15 1,
 iI 17 .quo 16 100,
 iB 18 .sub 14 17,
 iM 19 3,
 iI 20 .sub 19 1,
 iI 21 .quo 20 400,
 iB 22 .add 18 21,
 iI 23 .add 22 1,
 iB 24 .add 11 23,
 iM 4 24])
 .skip))
 (.seq (.reg [
 iM 25 4,
 iM 2 25])
 .ret))))), [.tmp 2]⟩
def a_calendar_days : AF := ⟨17, (.seq (.reg [
 iK 4 (.int .i64 0)])
 (.seq (.reg [
 iO 6 (.build [(.int .i64 0), (.int .i64 0), (.int .i64 0), (.int .i64 0), (.int .i64 0), (.int .i64 0), (.int .i64 0), (.int .i64 0), (.int .i64 0), (.int .i64 0), (.int .i64 0), (.int .i64 0)] [(0, 1, (.c (.int .i64 31))), (1, 1, (.c (.int .i64 28))), (2, 1, (.c (.int .i64 31))), (3, 1, (.c (.int .i64 30))), (4, 1, (.c (.int .i64 31))), (5, 1, (.c (.int .i64 30))), (6, 1, (.c (.int .i64 31))), (7, 1, (.c (.int .i64 31))), (8, 1, (.c (.int .i64 30))), (9, 1, (.c (.int .i64 31))), (10, 1, (.c (.int .i64 30))), (11, 1, (.c (.int .i64 31)))]),
 iO 5 (.newbox [(.int .i64 0), (.int .i64 0), (.int .i64 0), (.int .i64 0), (.int .i64 0), (.int .i64 0), (.int .i64 0), (.int .i64 0), (.int .i64 0), (.int .i64 0), (.int .i64 0), (.int .i64 0)]),
 iN (.st (.t 5) (.t 6) 12 false (some 5))])
 (.seq (.seq (.reg [
 iM 7 1,
 iI 8 .eql 7 2,
 iM 9 8,
 iG 10 (.mv (.t 0)) 9 true,
 iG 11 (.call n_calendar_leap [((.t 10), false)] false) 9 true,
 iO 12 (.pick (.t 9) (.t 11) (.c (.bool false)))])
 (.cond (.t 12) (.seq (.reg [
 iK 4 (.int .i64 29)])
 .ret)
 .skip))
 (.seq (.reg [
 iM 13 1,
 iI 14 .sub 13 1,
 iO 15 (.ia (.t 5) (.t 14) 1 (some 12) (some 5)),
 iO 16 (.ld (.t 15) none false (some 5)),
 iM 4 16])
 .ret)))), [.tmp 4]⟩
def a_lexer_fail : AF := ⟨8, (.reg [
 iM 4 0,
 iM 5 1,
 iO 6 (.build [(.int .i64 0), (.int .i64 0)] [(0, 1, (.t 4)), (1, 1, (.t 5))]),
 iO 7 (.mki 99 (.t 6)),
 iN (.pan (.t 7))]), []⟩
def billingref25_digits_l1b : AC := (.seq (.seq (.reg [
 iM 4 3,
 iM 5 0,
 iO 6 (.len true (.t 5) none),
 iB 7 .lss 4 6])
 (.cond (.t 7) .skip
 (.exit 0)))
 (.seq (.blk 1 (.seq (.reg [
 iM 10 0,
 iM 11 3,
 iO 12 (.idx (.t 10) (.t 11) none 1 false),
 iO 13 (.call n_billingref23_Digit [((.t 12), false)] false),
 iO 14 (.un .not (.t 13))])
 (.cond (.t 14) (.seq (.reg [
 iK 2 (.bool false)])
 .ret)
 .skip)))
 (.reg [
 iM 8 3,
 iI 9 .add 8 1,
 iM 3 9])))
def billingref25_digits_l1 : AC := .pre mk_35 billingref25_digits_l1b
@[go_sem] theorem billingref25_digits_l1_go : LoopRule billingref25_digits_l1 billingref25_digits_l1b mk_35 := loopRule
@[go_sem] theorem billingref25_digits_l1_lp : LpRule billingref25_digits_l1 billingref25_digits_l1b mk_35 := lpRule
def billingref25_digits_k1b : AC := (.seq (.reg [
 iM 15 0,
 iO 16 (.len true (.t 15) none),
 iI 17 .geq 16 1,
 iM 18 17,
 iG 19 (.mv (.t 0)) 18 true,
 iG 20 (.len true (.t 19) none) 18 true,
 iG 21 (.bin .leq (.t 20) (.c (.int .i64 16))) 18 true,
 iO 22 (.pick (.t 18) (.t 21) (.c (.bool false))),
 iM 2 22])
 .ret)
def billingref25_digits_k1 : AC := .pre mk_34 billingref25_digits_k1b
def a_billingref25_digits : AF := ⟨23, (.seq (.reg [
 iK 2 (.bool false)])
 (.seq (.seq (.reg [
 iK 3 (.int .i64 0)])
 (.blk 0 (.loop billingref25_digits_l1)))
 billingref25_digits_k1)), [.tmp 2]⟩
def a_billingref25_number : AF := ⟨9, (.seq (.reg [
 iK 2 (.bool false)])
 (.seq (.reg [
 iM 3 0,
 iI 4 .geq 3 0,
 iM 5 4,
 iG 6 (.mv (.t 0)) 5 true,
 iG 7 (.bin .leq (.t 6) (.c (.int .i64 9999999999999999))) 5 true,
 iO 8 (.pick (.t 5) (.t 7) (.c (.bool false))),
 iM 2 8])
 .ret)), [.tmp 2]⟩
def a_billingref24_Length : AF := ⟨34, (.seq (.reg [
 iK 4 (.int .i64 0)])
 (.seq (.seq (.reg [
 iM 5 1,
 iI 6 .eql 5 2])
 (.cond (.t 6) (.seq (.seq (.reg [
 iM 7 0,
 iI 8 .rem 7 400,
 iI 9 .eql 8 0,
 iM 10 9,
 iG 11 (.mv (.t 0)) 10 false,
 iG 12 (.bin .rem (.t 11) (.c (.int .i64 4))) 10 false,
 iG 13 (.bin .eql (.t 12) (.c (.int .i64 0))) 10 false,
 iG 14 (.mv (.t 13)) 10 false,
 iG 15 (.mv (.t 0)) 14 true,
 iG 16 (.bin .rem (.t 15) (.c (.int .i64 100))) 14 true,
 iG 17 (.bin .neq (.t 16) (.c (.int .i64 0))) 14 true,
 iG 18 (.pick (.t 14) (.t 17) (.c (.bool false))) 10 false,
 iO 19 (.pick (.t 10) (.c (.bool true)) (.t 18))])
 (.cond (.t 19) (.seq (.reg [
 iK 4 (.int .i64 29)])
 .ret)
 .skip))
 (.seq (.reg [
 iK 4 (.int .i64 28)])
 .ret))
 .skip))
 (.seq (.seq (.reg [
 iM 20 1,
 iI 21 .eql 20 4,
 iM 22 21,
 iG 23 (.mv (.t 1)) 22 false,
 iG 24 (.bin .eql (.t 23) (.c (.int .i64 6))) 22 false,
 iO 25 (.pick (.t 22) (.c (.bool true)) (.t 24)),
 iM 26 25,
 iG 27 (.mv (.t 1)) 26 false,
 iG 28 (.bin .eql (.t 27) (.c (.int .i64 9))) 26 false,
 iO 29 (.pick (.t 26) (.c (.bool true)) (.t 28)),
 iM 30 29,
 iG 31 (.mv (.t 1)) 30 false,
 iG 32 (.bin .eql (.t 31) (.c (.int .i64 11))) 30 false,
 iO 33 (.pick (.t 30) (.c (.bool true)) (.t 32))])
 (.cond (.t 33) (.seq (.reg [
 iK 4 (.int .i64 30)])
 .ret)
 .skip))
 (.seq (.reg [
 iK 4 (.int .i64 31)])
 .ret)))), [.tmp 4]⟩
def a_billingref25_Two : AF := ⟨10, (.seq (.reg [
 iK 2 (.str [])])
 (.seq (.seq (.reg [
 iM 3 0,
 iI 4 .lss 3 10])
 (.cond (.t 4) (.seq (.reg [
 iM 5 0,
 iO 6 (.call n_billingref25_Decimal [((.t 5), false)] false),
 iO 7 (.bin .add (.c (.str [48])) (.t 6)),
 iM 2 7])
 .ret)
 .skip))
 (.seq (.reg [
 iM 8 0,
 iO 9 (.call n_billingref25_Decimal [((.t 8), false)] false),
 iM 2 9])
 .ret))), [.tmp 2]⟩
def a_billingref25_Minute : AF := ⟨11, (.seq (.reg [
 iK 2 (.str [])])
 (.seq (.reg [
 iM 3 0,
 iI 4 .quo 3 60,
 iO 5 (.call n_billingref25_Two [((.t 4), false)] false),
 iO 6 (.bin .add (.t 5) (.c (.str [58]))),
 iM 7 0,
 iI 8 .rem 7 60,
 iO 9 (.call n_billingref25_Two [((.t 8), false)] false),
 iB 10 .add 6 9,
 iM 2 10])
 .ret)), [.tmp 2]⟩
def a_billingref24_Days : AF := ⟨2, (.seq (.reg [
 iK 0 (.sl true 1 [])])
 (.pre mk_45 (.seq (.reg [
 iO 1 (.bsl 1 8 (.str []) [(0, (.c (.str [109, 111, 110]))), (1, (.c (.str [116, 117, 101]))), (2, (.c (.str [119, 101, 100]))), (3, (.c (.str [116, 104, 117]))), (4, (.c (.str [102, 114, 105]))), (5, (.c (.str [115, 97, 116]))), (6, (.c (.str [115, 117, 110]))), (7, (.c (.str [104, 111, 108, 105, 100, 97, 121])))]),
 iM 0 1])
 .ret))), [.tmp 0]⟩
@[go_sem] def mk_148 : List Bool := [K1,K1,K0,K0,K1,K1,K1,K1,K1,K1,K1,K1,K1,K1,K1,K1,K1,K1,K1]
def billingref24_Place_l1b : AC := (.seq (.seq (.reg [
 iM 6 5,
 iC 7 0,
 iO 8 (.len false (.t 7) (some 0)),
 iB 9 .lss 6 8])
 (.cond (.t 9) .skip
 (.exit 0)))
 (.seq (.blk 1 (.seq (.reg [
 iC 12 0,
 iM 13 5,
 iO 14 (.ia (.t 12) (.t 13) 1 none (some 0)),
 iL 15 14,
 iM 16 1,
 iB 17 .eql 15 16])
 (.cond (.t 17) (.seq (.reg [
 iM 18 5,
 iM 4 18])
 .ret)
 .skip)))
 (.reg [
 iM 10 5,
 iI 11 .add 10 1,
 iM 5 11])))
@[go_sem] def mk_149 : List Bool := [K0,K0,K0,K0,K1,K0,K1,K1,K1,K1,K1,K1,K1,K1,K1,K1,K1,K1,K1]
def billingref24_Place_l1 : AC := .pre mk_149 billingref24_Place_l1b
@[go_sem] theorem billingref24_Place_l1_go : LoopRule billingref24_Place_l1 billingref24_Place_l1b mk_149 := loopRule
@[go_sem] theorem billingref24_Place_l1_lp : LpRule billingref24_Place_l1 billingref24_Place_l1b mk_149 := lpRule
def billingref24_Place_k1b : AC := (.seq (.reg [
 iK 4 (.int .i64 (-1))])
 .ret)
def billingref24_Place_k1 : AC := .pre mk_148 billingref24_Place_k1b
def a_billingref24_Place : AF := ⟨19, (.seq (.reg [
 iS 0,
 iK 4 (.int .i64 0)])
 (.seq (.seq (.reg [
 iK 5 (.int .i64 0)])
 (.blk 0 (.loop billingref24_Place_l1)))
 billingref24_Place_k1)), [.tmp 4]⟩
def a_billingref24_Attributes : AF := ⟨2, (.seq (.reg [
 iK 0 (.sl true 1 [])])
 (.pre mk_45 (.seq (.reg [
 iO 1 (.bsl 1 9 (.str []) [(0, (.c (.str [107, 105, 110, 100]))), (1, (.c (.str [117, 110, 105, 116, 115]))), (2, (.c (.str [119, 101, 101, 107, 100, 97, 121]))), (3, (.c (.str [109, 105, 110, 117, 116, 101]))), (4, (.c (.str [116, 111, 116, 97, 108]))), (5, (.c (.str [115, 112, 101, 110, 116]))), (6, (.c (.str [122, 111, 110, 101]))), (7, (.c (.str [98, 97, 110, 100]))), (8, (.c (.str [102, 97, 109, 105, 108, 121])))]),
 iM 0 1])
 .ret))), [.tmp 0]⟩
def a_calendar_leap : AF := ⟨16, (.seq (.reg [
 iK 2 (.bool false)])
 (.seq (.reg [
 iM 3 0,
 iI 4 .rem 3 4,
 iI 5 .eql 4 0,
 iM 6 5,
 iG 7 (.mv (.t 0)) 6 true,
 iG 8 (.bin .rem (.t 7) (.c (.int .i64 100))) 6 true,
 iG 9 (.bin .neq (.t 8) (.c (.int .i64 0))) 6 true,
 iO 10 (.pick (.t 6) (.t 9) (.c (.bool false))),
 iM 11 10,
 iG 12 (.mv (.t 0)) 11 false,
 iG 13 (.bin .rem (.t 12) (.c (.int .i64 400))) 11 false,
 iG 14 (.bin .eql (.t 13) (.c (.int .i64 0))) 11 false,
 iO 15 (.pick (.t 11) (.c (.bool true)) (.t 14)),
 iM 2 15])
 .ret)), [.tmp 2]⟩
def d_lexer_Scan : AFD := ⟨24, [p1_lexer_Scan, p2_lexer_Scan], 10, n_lexer_Scan_1, [.t 2, .t 3, .t 4], b_lexer_Scan, [.cell 2 none, .cell 3 none, .cell 4 none], 21, 6, 3, g_lexer_Scan_1⟩
def ft : FuncId → Option AF
 | 11 => some a_billinglaw25_PrinterTariffs
 | 12 => some a_billinglaw25_PrinterExprs
 | 19 => some a_billingref25_Small
 | 20 => some a_billinglaw25_awake
 | 21 => some a_printer_Tariff
 | 25 => some a_printer_Expr
 | 31 => some a_billingref23_Value
 | 34 => some a_lexer_Quote
 | 35 => some a_lexer_Keyword
 | 36 => some a_billingref23_Keyword
 | 37 => some a_billingref23_Quote
 | 38 => some a_billingref25_Tariff
 | 39 => some a_billingref25_SmallExpr
 | 40 => some a_billingref25_Expr
 | 48 => some a_printer_printable
 | 49 => some a_calendar_Print
 | 50 => some a_printer_join
 | 51 => some a_printer_decimal
 | 52 => some a_printer_list
 | 53 => some a_printer_slots
 | 54 => some a_printer_rate
 | 55 => some a_printer_text
 | 65 => some a_printer_printableExpr
 | 67 => some a_lexer_scanner_next
 | 69 => some a_billingref23_Has
 | 70 => some a_billingref23_inText
 | 71 => some a_billingref25_Whole
 | 72 => some a_billingref25_head
 | 73 => some a_billingref25_Joined
 | 74 => some a_billingref25_bandLine
 | 75 => some a_billingref25_rateLine
 | 76 => some a_billingref25_Decimal
 | 77 => some a_billingref25_show
 | 78 => some a_billingref25_Count
 | 79 => some a_billingref25_Printable
 | 83 => some a_printer_name
 | 84 => some a_printer_prefixes
 | 85 => some a_printer_printableSlots
 | 86 => some a_printer_printableRate
 | 87 => some a_printer_number
 | 88 => some a_calendar_Date
 | 89 => some a_calendar_digits
 | 90 => some a_printer_clock
 | 91 => some a_printer_kind
 | 92 => some a_printer_anyName
 | 93 => some a_printer_operand
 | 94 => some a_printer_strength
 | 95 => some a_printer_sign
 | 111 => some a_printer_operands
 | 112 => some a_printer_attribute
 | 113 => some a_lexer_scanner_blanks
 | 114 => some a_lexer_lower
 | 115 => some a_lexer_scanner_word
 | 116 => some a_lexer_digit
 | 117 => some a_lexer_scanner_number
 | 118 => some a_lexer_scanner_text
 | 119 => some a_lexer_scanner_symbol
 | 120 => some a_billingref23_Lower
 | 122 => some a_billingref23_Digit
 | 126 => some a_billingref25_zone
 | 127 => some a_billingref25_band
 | 128 => some a_billingref25_rate
 | 129 => some a_billingref25_discount
 | 130 => some a_billingref25_Name
 | 131 => some a_billingref25_Date
 | 132 => some a_billingref25_Clock
 | 133 => some a_billingref25_slot
 | 134 => some a_billingref24_Kinds
 | 135 => some a_billingref25_any
 | 136 => some a_billingref25_step
 | 137 => some a_billingref25_operand
 | 138 => some a_billingref25_Strength
 | 139 => some a_billingref25_Symbol
 | 140 => some a_billingref25_Arity
 | 141 => some a_billingref25_own
 | 146 => some a_printer_nameOrNone
 | 147 => some a_calendar_before
 | 148 => some a_calendar_days
 | 161 => some a_lexer_fail
 | 164 => some a_billingref25_digits
 | 165 => some a_billingref25_number
 | 166 => some a_billingref24_Length
 | 167 => some a_billingref25_Two
 | 168 => some a_billingref25_Minute
 | 169 => some a_billingref24_Days
 | 170 => some a_billingref24_Place
 | 171 => some a_billingref24_Attributes
 | 175 => some a_calendar_leap
 | _ => none
end Go.Am
