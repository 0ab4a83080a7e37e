/-
 The functions of the program as they are run: printed by program.
-/
import Derived.Test.YtinaaabmmjpijaaDoorChecked
import Derived.Test.YtinaaabmmjpijaaDoorZTopGrowsJ
namespace Go.Proofs.YtinaaabmmjpijaaDoor.rv
open Go.RV
set_option maxRecDepth 100000
abbrev i6 : CT := .int .i64
abbrev V0 : X := .var 0
abbrev V1 : X := .var 1
abbrev V2 : X := .var 2
abbrev V3 : X := .var 3
abbrev V4 : X := .var 4
abbrev V5 : X := .var 5
abbrev V6 : X := .var 6
abbrev V7 : X := .var 7
abbrev V8 : X := .var 8
abbrev V9 : X := .var 9
abbrev V10 : X := .var 10
abbrev V11 : X := .var 11
abbrev V12 : X := .var 12
abbrev V13 : X := .var 13
abbrev V14 : X := .var 14
abbrev V15 : X := .var 15
abbrev V16 : X := .var 16
abbrev V17 : X := .var 17
abbrev V18 : X := .var 18
abbrev V19 : X := .var 19
abbrev V20 : X := .var 20
abbrev V21 : X := .var 21
abbrev V22 : X := .var 22
abbrev V23 : X := .var 23
abbrev V24 : X := .var 24
abbrev V25 : X := .var 25
abbrev V26 : X := .var 26
abbrev V27 : X := .var 27
abbrev V28 : X := .var 28
abbrev V29 : X := .var 29
abbrev V30 : X := .var 30
abbrev V31 : X := .var 31
abbrev V32 : X := .var 32
abbrev V33 : X := .var 33
abbrev V34 : X := .var 34
abbrev V35 : X := .var 35
abbrev V36 : X := .var 36
abbrev V37 : X := .var 37
abbrev V38 : X := .var 38
abbrev V39 : X := .var 39
abbrev V40 : X := .var 40
abbrev V41 : X := .var 41
abbrev V42 : X := .var 42
abbrev V43 : X := .var 43
abbrev V44 : X := .var 44
abbrev V45 : X := .var 45
abbrev V46 : X := .var 46
abbrev V47 : X := .var 47
abbrev V48 : X := .var 48
abbrev V49 : X := .var 49
abbrev V50 : X := .var 50
abbrev V51 : X := .var 51
abbrev V52 : X := .var 52
abbrev V53 : X := .var 53
abbrev V54 : X := .var 54
abbrev V55 : X := .var 55
abbrev V56 : X := .var 56
abbrev V57 : X := .var 57
abbrev V58 : X := .var 58
abbrev V59 : X := .var 59
abbrev V60 : X := .var 60
abbrev V61 : X := .var 61
abbrev V62 : X := .var 62
abbrev V63 : X := .var 63
abbrev V64 : X := .var 64
abbrev V65 : X := .var 65
abbrev V66 : X := .var 66
abbrev V67 : X := .var 67
abbrev V68 : X := .var 68
abbrev V69 : X := .var 69
abbrev V70 : X := .var 70
abbrev V71 : X := .var 71
abbrev V73 : X := .var 73
abbrev Tt : X := .t true
abbrev N0 : X := .n 0
abbrev Ty0 : CT := .sl 46 [.str, .str, i6, i6, i6, (.sl 48 [.str, i6])]
abbrev Ty1 : CT := .sl 28 [i6, i6, i6, i6, .str, i6, i6]
abbrev Ty2 : CT := .sl 38 [i6, i6, i6, i6]
abbrev Ty3 : CT := .sl 48 [.str, i6]
abbrev Ty4 : CT := .sl 50 [.str, i6]
abbrev Ty5 : CT := .sl 62 [i6, i6]
abbrev Ty6 : CT := .sl 3 [i6]
abbrev an (n : Nat) : List SV := List.replicate n .any
abbrev rg (a n : Nat) : List Nat := List.range' a n
abbrev Q30 : X := .upd 0 V4 (.sel 0 V1 V3) (.cons (.bin (.or .i64) (.sel 0 V4 (.sel 0 V1 V3)) (.bin (.shl .i64) (.n 1) (.sel 1 V1 V3))) .nil)
abbrev Q0 : X := .cons (.pk (.cons V5 (.cons V6 (.cons V7 (.cons V8 (.cons V9 (.cons V10 (.cons V11 (.cons V12 (.cons V13 (.cons V14 (.cons V15 (.cons V16 (.cons V17 (.cons V18 (.cons V19 (.cons V20 (.cons V21 (.cons V22 (.cons V23 (.cons V24 (.cons V25 (.cons V26 (.cons V27 (.cons V28 (.cons V29 (.cons V30 (.cons V31 (.cons V32 (.cons V33 (.cons V34 (.cons V35 (.cons V36 (.cons V37 (.cons V38 (.cons V39 (.cons V40 (.cons V41 (.cons V42 (.cons V43 (.cons V44 (.cons V45 (.cons V46 (.cons V47 (.cons V48 (.cons V49 (.cons V50 (.cons V51 (.cons V52 (.cons V53 (.cons V54 (.cons V55 (.cons V56 (.cons V57 (.cons V58 (.cons V59 (.cons V60 (.cons V61 (.cons V62 (.cons V63 (.cons V64 (.cons V65 (.cons V66 (.cons V67 (.cons V68 (.cons V69 (.cons Q30 .nil))))))))))))))))))))))))))))))))))))))))))))))))))))))))))))))))))) .nil
abbrev Q272 : X := .rep V0 (.cons N0 .nil)
abbrev Q1 : X := .cons V69 (.cons V1 (.cons (.un .len V1) (.cons N0 (.cons Q272 (.cons V0 (.cons V5 (.cons V6 (.cons V7 (.cons V8 (.cons V9 (.cons V10 (.cons V11 (.cons V12 (.cons V13 (.cons V14 (.cons V15 (.cons V16 (.cons V17 (.cons V18 (.cons V19 (.cons V20 (.cons V21 (.cons V22 (.cons V23 (.cons V24 (.cons V25 (.cons V26 (.cons V27 (.cons V28 (.cons V29 (.cons V30 (.cons V31 (.cons V32 (.cons V33 (.cons V34 (.cons V35 (.cons V36 (.cons V37 (.cons V38 (.cons V39 (.cons V40 (.cons V41 (.cons V42 (.cons V43 (.cons V44 (.cons V45 (.cons V46 (.cons V47 (.cons V48 (.cons V49 (.cons V50 (.cons V51 (.cons V52 (.cons V53 (.cons V54 (.cons V55 (.cons V56 (.cons V57 (.cons V58 (.cons V59 (.cons V60 (.cons V61 (.cons V62 (.cons V63 (.cons V64 (.cons V65 (.cons V66 (.cons V67 (.cons V68 (.cons .lnil .nil))))))))))))))))))))))))))))))))))))))))))))))))))))))))))))))))))))))
abbrev Q5 : X := .cons V5 (.cons V6 (.cons V7 (.cons V8 (.cons V9 (.cons V10 (.cons V11 (.cons V12 (.cons V13 (.cons V14 (.cons V15 (.cons V16 (.cons V17 (.cons V18 (.cons V19 (.cons V20 (.cons V21 (.cons V22 (.cons V23 (.cons V24 (.cons V25 (.cons V26 (.cons V27 (.cons V28 (.cons V29 (.cons V30 (.cons V31 (.cons V32 (.cons V33 (.cons V34 (.cons V35 (.cons V36 (.cons V37 (.cons V38 (.cons V39 (.cons V40 (.cons V41 (.cons V42 (.cons V43 (.cons V44 (.cons V45 (.cons V46 (.cons V47 (.cons V48 (.cons V49 (.cons V50 (.cons V51 (.cons V52 (.cons V53 (.cons V54 (.cons V55 (.cons V56 (.cons V57 (.cons V58 (.cons V59 (.cons V60 (.cons V61 (.cons V62 (.cons V63 (.cons V64 (.cons V65 (.cons V66 (.cons V67 (.cons V68 .nil)))))))))))))))))))))))))))))))))))))))))))))))))))))))))))))))
abbrev Q84 : X := .bin (.add .i64) (.bin (.mul .i64) (.sel 0 V0 V2) (.n 8)) (.sel 1 V0 V2)
abbrev Q2 : X := .bin (.add .i64) (.nth Q5 Q84) (.n 1)
abbrev Q188 : X := .cons Q272 .nil
abbrev Q3 : X := .cons (.pk (.cons V0 (.cons V5 (.cons V6 (.cons V7 (.cons V8 (.cons V9 (.cons V10 (.cons V11 (.cons V12 (.cons V13 (.cons V14 (.cons V15 (.cons V16 (.cons V17 (.cons V18 (.cons V19 (.cons V20 (.cons V21 (.cons V22 (.cons V23 (.cons V24 (.cons V25 (.cons V26 (.cons V27 (.cons V28 (.cons V29 (.cons V30 (.cons V31 (.cons V32 (.cons V33 (.cons V34 (.cons V35 (.cons V36 (.cons V37 (.cons V38 (.cons V39 (.cons V40 (.cons V41 (.cons V42 (.cons V43 (.cons V44 (.cons V45 (.cons V46 (.cons V47 (.cons V48 (.cons V49 (.cons V50 (.cons V51 (.cons V52 (.cons V53 (.cons V54 (.cons V55 (.cons V56 (.cons V57 (.cons V58 (.cons V59 (.cons V60 (.cons V61 (.cons V62 (.cons V63 (.cons V64 (.cons V65 (.cons V66 (.cons V67 (.cons V68 Q188)))))))))))))))))))))))))))))))))))))))))))))))))))))))))))))))))) .nil
abbrev Q4 : X := .cons V1 (.cons (.un .len V1) (.cons N0 (.cons Q272 (.cons V0 (.cons N0 (.cons N0 (.cons N0 (.cons N0 (.cons N0 (.cons N0 (.cons N0 (.cons N0 (.cons N0 (.cons N0 (.cons N0 (.cons N0 (.cons N0 (.cons N0 (.cons N0 (.cons N0 (.cons N0 (.cons N0 (.cons N0 (.cons N0 (.cons N0 (.cons N0 (.cons N0 (.cons N0 (.cons N0 (.cons N0 (.cons N0 (.cons N0 (.cons N0 (.cons N0 (.cons N0 (.cons N0 (.cons N0 (.cons N0 (.cons N0 (.cons N0 (.cons N0 (.cons N0 (.cons N0 (.cons N0 (.cons N0 (.cons N0 (.cons N0 (.cons N0 (.cons N0 (.cons N0 (.cons N0 (.cons N0 (.cons N0 (.cons N0 (.cons N0 (.cons N0 (.cons N0 (.cons N0 (.cons N0 (.cons N0 (.cons N0 (.cons N0 (.cons N0 (.cons N0 (.cons N0 (.cons N0 (.cons N0 (.cons N0 .nil))))))))))))))))))))))))))))))))))))))))))))))))))))))))))))))))))))
abbrev Q32 : X := .cons (.str ⟨#[97]⟩) (.cons (.str ⟨#[97]⟩) (.cons (.n 20000) (.cons (.n 10000) (.cons (.n (-1)) (.cons .lnil .nil)))))
abbrev Q7 : X := .lcons Q32 (.lcons Q32 (.lcons Q32 .lnil))
abbrev Q6 : X := .upd 0 Q7 (.n 1) (.cons (.str ⟨#[98]⟩) .nil)
abbrev Q34 : X := .rep (.psel 0 V0) (.cons N0 (.cons N0 (.cons N0 (.cons N0 (.cons N0 (.cons (.t false) (.cons (.t false) .nil)))))))
abbrev Q8 : X := .cons (.un .len Q34) (.cons N0 (.cons Q34 .nil))
abbrev Q9 : X := .cons V2 (.cons V3 (.cons V4 (.cons V5 (.cons V6 (.cons (.sel 0 V5 V1) (.cons (.sel 1 V5 V1) (.cons (.sel 2 V5 V1) (.cons (.sel 3 V5 V1) (.cons (.sel 4 V5 V1) (.cons (.sel 5 V5 V1) (.cons (.sel 6 V5 V1) .nil)))))))))))
abbrev Q10 : X := .cons V4 (.cons V5 (.cons V6 (.cons V7 (.cons V8 (.cons (.sel 0 V1 V3) (.cons (.sel 1 V1 V3) (.cons (.sel 2 V1 V3) (.cons (.sel 3 V1 V3) (.cons (.sel 4 V1 V3) (.cons (.sel 5 V1 V3) (.cons (.sel 6 V1 V3) .nil)))))))))))
abbrev Q182 : X := .cons V9 (.cons V10 (.cons V11 .nil))
abbrev Q28 : X := .bin .cat (.bin .cat .lnil V3) (.lcons (.cons V5 (.cons V6 (.cons V7 (.cons V8 Q182)))) .lnil)
abbrev Q11 : X := .cons V0 (.cons V1 (.cons V2 (.cons Q28 (.cons V4 (.cons (.n 8) (.cons (.n 10) .nil))))))
abbrev Q141 : X := .bin (.add .i64) (.sel 0 V4 V0) (.sel 1 V1 V3)
abbrev Q12 : X := .upd 0 V4 (.sel 0 V1 V3) (.cons Q141 (.cons V0 (.cons (.sel 0 V1 V3) (.cons (.sel 1 V1 V3) (.cons (.sel 2 V1 V3) (.cons (.sel 3 V1 V3) (.cons (.t false) .nil)))))))
abbrev Q13 : X := .cons (.sel 0 V1 V3) (.cons (.sel 0 V0 (.sel 0 V1 V3)) (.cons (.un .len (.sel 0 V0 (.sel 0 V1 V3))) (.cons N0 (.cons V4 (.cons (.upd 0 V5 (.sel 0 V1 V3) (.cons (.t false) .nil)) (.cons V6 .nil))))))
abbrev Q228 : X := .bin .lt (.bin .min V5 V6) N0
abbrev Q158 : X := .bin .le (.un .len V2) (.bin .max V5 V6)
abbrev Q185 : X := .bin .lt (.bin .min V7 V8) (.n (-1))
abbrev Q177 : X := .bin .le (.un .len (.sel 5 V2 V5)) V7
abbrev Q14 : X := .un .not (.ite (.ite (.ite Q228 Tt Q158) Tt Q185) Tt Q177)
abbrev Q15 : X := .cons V0 (.cons V1 (.cons V2 (.cons Q28 (.cons V4 .nil))))
abbrev Q16 : X := .cons (.ite (.ite (.ite (.bin .le (.n 97) V0) (.bin .le V0 (.n 122)) (.t false)) Tt (.ite (.bin .le (.n 65) V0) (.bin .le V0 (.n 90)) (.t false))) Tt (.bin .eq V0 (.n 95))) .nil
abbrev Q17 : X := .cons V0 (.cons N0 (.cons (.sel 0 V4 V1) (.cons (.sel 1 V4 V1) (.cons (.sel 2 V4 V1) (.cons (.sel 3 V4 V1) (.cons (.sel 4 V4 V1) (.cons (.sel 5 V4 V1) .nil)))))))
abbrev Q18 : X := .cons V1 (.cons (.un .len V1) (.cons N0 (.cons V0 (.cons V1 (.cons V2 (.cons V3 (.cons V4 (.cons V5 (.cons V6 (.cons V7 (.cons V0 (.cons .lnil .nil))))))))))))
abbrev Q132 : X := .bin (.andn .i64) V1 (.bin (.shl .i64) (.n 1) V3)
abbrev Q19 : X := .cons V0 (.cons V3 (.cons (.sel 0 V4 Q132) (.cons Q132 .nil)))
abbrev Q20 : X := .cons V1 (.cons (.sel 0 V0 V4) (.cons (.sel 1 V0 V4) (.cons (.sel 2 V0 V4) (.cons (.sel 3 V0 V4) (.cons (.sel 4 V0 V4) (.cons (.sel 5 V0 V4) .nil))))))
abbrev Q21 : X := .bin .cat V12 (.lcons (.cons (.sel 0 V0 V2) (.cons (.sel 1 V0 V2) (.cons (.sel 6 V9 (.sel 0 V5 V2)) (.cons (.sel 5 V9 (.sel 0 V5 V2)) .nil)))) .lnil)
abbrev Q22 : X := .bin .cat V10 (.lcons (.cons (.sel 0 V8 V1) (.cons (.sel 1 V8 V1) (.cons (.sel 6 V5 (.sel 0 V0 V1)) (.cons (.sel 5 V5 (.sel 0 V0 V1)) .nil)))) .lnil)
abbrev Q23 : X := .un .not (.ite (.ite Q228 Tt Q158) Tt Q185)
abbrev Q24 : X := .cons V0 (.cons .lnil (.cons (.t false) (.cons V2 (.cons V1 (.cons N0 (.cons V8 (.cons (.rep (.psel 0 V0) (.cons (.t false) .nil)) .nil)))))))
abbrev Q136 : X := .cons (.sel 0 V4 V5) (.cons (.sel 1 V4 V5) .nil)
abbrev Q25 : X := .cons V5 (.cons N0 (.cons N0 (.cons V0 (.cons V1 (.cons V2 (.cons V3 (.cons V4 Q136)))))))
abbrev Q26 : X := .cons (.sub V0 N0 V4) (.cons (.clo 66 [(.pt [.str, i6])] (.cons (.pk (.cons (.sel 0 V2 V4) (.cons (.sel 1 V2 V4) .nil))) .nil)) .nil)
abbrev Q27 : X := .cons (.sub V4 N0 V5) (.cons (.clo 50 [(.pt [.str, i6])] (.cons (.pk Q136) .nil)) .nil)
abbrev Q232 : X := .cons V5 (.cons .lnil .nil)
abbrev Q29 : X := .cons V7 (.cons N0 (.cons V0 (.cons V1 (.cons V2 (.cons V3 (.cons V4 (.cons V5 (.cons V6 Q232))))))))
abbrev Q77 : X := .bin .cat V4 (.lcons (.cons (.sel 0 V0 V2) (.cons (.sel 1 V0 V2) .nil)) .lnil)
abbrev Q31 : X := .bin .le (.un .len Q77) (.n 8796093022208)
abbrev Q33 : X := .un .not (.ite (.ite (.bin .lt V7 (.n (-1))) Tt Q177) Tt (.bin .lt V8 (.n (-1))))
abbrev Q113 : X := .cons V0 (.cons V1 (.cons V2 (.cons V3 (.cons V4 .nil))))
abbrev Q88 : X := .cons N0 Q113
abbrev Q35 : X := .cons V10 (.cons V3 (.cons (.un .len V3) Q88))
abbrev Q143 : X := .bin .min V8 (.un (.neg .i64) (.sel 0 V3 V7))
abbrev Q266 : X := .cons V2 (.cons V4 .nil)
abbrev Q121 : X := .cons V5 (.cons V0 (.cons V1 Q266))
abbrev Q36 : X := .cons Q143 Q121
abbrev Q214 : X := .rep (.psel 0 V0) (.cons N0 .nil)
abbrev Q118 : X := .cons N0 (.cons Q214 .nil)
abbrev Q37 : X := .cons (.un .len Q214) Q118
abbrev Q38 : X := .cons (.psel 1 V0) (.cons (.un .len (.psel 1 V0)) Q118)
abbrev Q39 : X := .cons V5 (.cons (.lcons (.cons N0 .nil) (.lcons (.cons (.n 1) .nil) (.lcons (.cons (.n 1) .nil) .lnil))) .nil)
abbrev Q40 : X := .cons V0 (.cons V1 (.cons (.psel 0 V0) (.cons N0 (.cons (.upd 0 V2 V1 (.cons (.n 1048576) .nil)) .nil))))
abbrev Q171 : X := .cons (.un .len V2) (.cons .lnil .nil)
abbrev Q41 : X := .cons N0 (.cons V0 (.cons V1 (.cons V2 (.cons V3 (.cons V4 Q171)))))
abbrev Q42 : X := .cons (.un .len Q272) (.cons N0 (.cons V9 Q188))
abbrev Q43 : X := .cons V10 (.cons V8 (.cons (.un .len V8) (.cons N0 (.cons (.rep (.un .len V3) (.cons N0 .nil)) .nil))))
abbrev Q44 : X := .cons N0 (.cons (.un .len V2) Q88)
abbrev Q45 : X := .cons V7 (.cons (.un .len V4) Q88)
abbrev Q211 : X := .rep (.un .len V1) (.cons N0 .nil)
abbrev Q81 : X := .pk (.cons V0 (.cons V1 (.cons Q211 .nil)))
abbrev Q46 : X := .cons Q81 (.cons V3 .nil)
abbrev Q186 : X := .bin (.shl .i64) (.n 1) (.psel 0 V0)
abbrev Q47 : X := .cons V0 (.cons (.n 1) (.cons (.rep Q186 (.cons N0 .nil)) .nil))
abbrev Q48 : X := .upd 0 V3 (.sel 1 V0 V2) (.cons (.bin (.add .i64) (.sel 0 V3 (.sel 1 V0 V2)) (.sel 3 V0 V2)) .nil)
abbrev Q226 : X := .cons .lnil (.cons .lnil .nil)
abbrev Q49 : X := .cons V9 (.cons (.un .len V9) (.cons N0 (.cons (.un .len V2) Q226)))
abbrev Q230 : X := .lcons (.cons V3 .nil) .lnil
abbrev Q108 : X := .bin .cat (.bin .cat .lnil V0) Q230
abbrev Q50 : X := .cons V4 (.cons V5 (.cons Q108 .nil))
abbrev Q51 : X := .cons V3 (.cons V4 (.cons (.un .len V4) (.cons N0 (.cons V6 (.cons V7 (.cons .lnil .nil))))))
abbrev Q52 : X := .cons V5 (.cons (.sel 0 V3 V5) Q121)
abbrev Q71 : X := .cons N0 Q88
abbrev Q53 : X := .cons V5 Q71
abbrev Q54 : X := .cons V2 (.cons (.un .len V2) (.cons N0 (.cons V0 (.cons V1 (.cons V5 (.cons V0 .nil))))))
abbrev Q55 : X := .cons V6 (.cons V7 (.cons V8 Q113))
abbrev Q56 : X := .cons (.n (-1)) (.cons (.n (-1)) (.cons (.str ⟨#[]⟩) (.cons (.n 1) (.cons (.n 1) .nil))))
abbrev Q57 : X := .cons Q81 .nil
abbrev Q58 : X := .cons (.t false) Q88
abbrev Q261 : X := .cons V0 (.cons V1 .nil)
abbrev Q192 : X := .cons N0 Q261
abbrev Q59 : X := .cons (.t false) (.cons V1 (.cons (.un .len V1) Q192))
abbrev Q229 : X := .lcons (.cons V0 .nil) .lnil
abbrev Q153 : X := .bin .cat V4 Q229
abbrev Q60 : X := .bin .le (.un .len Q153) (.n 17592186044416)
abbrev Q61 : X := .cons N0 (.cons (.un .bytes V0) (.cons (.un .len (.un .bytes V0)) (.cons N0 .nil)))
abbrev Q62 : X := .cons V5 (.cons V0 (.cons V1 (.cons V2 (.cons V3 (.cons V4 (.cons .lnil .nil))))))
abbrev Q63 : X := .cons V3 (.cons (.un .len V3) (.cons N0 Q171))
abbrev Q64 : X := .cons V2 (.cons (.clo 64 [(.pt [.str])] (.cons (.pk (.cons V5 .nil)) .nil)) .nil)
abbrev Q65 : X := .cons V11 Q88
abbrev Q248 : X := .cons (.sel 0 V2 V5) .nil
abbrev Q66 : X := .cons V0 (.cons V1 (.cons V2 (.cons V3 (.cons V4 Q248))))
abbrev Q251 : X := .cons (.sel 0 V4 V5) .nil
abbrev Q67 : X := .cons V0 (.cons V1 (.cons V2 (.cons V3 (.cons V4 Q251))))
abbrev Q68 : X := .cons V10 Q88
abbrev Q69 : X := .cons (.t false) (.cons N0 (.cons V15 (.cons V16 (.cons V17 (.cons V18 .nil)))))
abbrev Q70 : X := .cons V8 Q88
abbrev Q72 : X := .cons V5 Q88
abbrev Q73 : X := .cons V7 Q88
abbrev Q195 : X := .cons (.un .len V0) (.cons N0 .nil)
abbrev Q117 : X := .cons N0 (.cons V0 Q195)
abbrev Q74 : X := .cons V0 (.cons V1 Q117)
abbrev Q237 : X := .bin (.add .i64) V3 (.n 1)
abbrev Q163 : X := .cons Q237 .nil
abbrev Q131 : X := .cons V2 Q163
abbrev Q75 : X := .cons (.n (-1)) (.cons V1 Q131)
abbrev Q126 : X := .cons (.t false) Q192
abbrev Q76 : X := .cons V2 (.cons .lnil Q126)
abbrev Q78 : X := .bin .cat V7 (.lcons (.cons (.sel 0 V4 V0) (.cons (.sel 1 V4 V0) .nil)) .lnil)
abbrev Q79 : X := .bin .cat V5 (.lcons (.cons (.sel 0 V2 V0) (.cons (.sel 1 V2 V0) .nil)) .lnil)
abbrev Q80 : X := .cons (.n (-1)) (.cons (.un .len V3) (.cons N0 (.cons V3 (.cons V7 .nil))))
abbrev Q82 : X := .cons N0 (.cons V8 (.cons V9 (.cons V8 Q226)))
abbrev Q83 : X := .cons (.ite (.bin .le (.n 48) V0) (.bin .le V0 (.n 57)) (.t false)) .nil
abbrev Q85 : X := .cons V0 (.cons V1 (.cons V2 (.cons V3 (.cons V7 (.cons V10 .nil)))))
abbrev Q86 : X := .cons Q211 Q261
abbrev Q233 : X := .bin (.add .i64) V1 (.n 1)
abbrev Q159 : X := .cons Q233 .nil
abbrev Q87 : X := .cons (.n (-1)) (.cons V0 Q159)
abbrev Q236 : X := .bin (.add .i64) V2 (.n 1)
abbrev Q161 : X := .cons Q236 .nil
abbrev Q89 : X := .cons (.n (-1)) (.cons V1 Q161)
abbrev Q265 : X := .cons V4 (.cons V5 .nil)
abbrev Q90 : X := .cons V0 (.cons V1 (.cons V2 (.cons V3 Q265)))
abbrev Q91 : X := .cons V2 (.cons V3 (.cons V4 (.cons V5 (.cons V6 (.cons V1 .nil)))))
abbrev Q164 : X := .cons (.bin (.add .i64) V4 (.n 1)) .nil
abbrev Q92 : X := .cons (.n (-1)) (.cons V2 Q164)
abbrev Q93 : X := .cons V0 (.cons V1 (.cons N0 Q195))
abbrev Q94 : X := .cons (.n (-1)) (.cons V0 Q163)
abbrev Q95 : X := .cons V0 Q117
abbrev Q96 : X := .cons V3 (.cons V4 (.cons V5 (.cons V6 (.cons V7 (.cons V2 .nil)))))
abbrev Q97 : X := .cons (.n (-1)) (.cons V0 Q161)
abbrev Q98 : X := .cons (.n (-1)) (.cons Q237 (.cons V4 .nil))
abbrev Q99 : X := .cons (.n (-1)) Q131
abbrev Q100 : X := .app 8 Q113 0
abbrev Q101 : X := .cons V2 (.cons N0 (.cons V1 (.cons (.un .len V1) (.cons N0 .nil))))
abbrev Q156 : X := .pk (.cons V1 (.cons V2 (.cons V0 .nil)))
abbrev Q102 : X := .cons Q156 (.cons V6 .nil)
abbrev Q103 : X := .upd 0 V3 V14 (.cons (.bin (.add .i64) (.sel 0 V3 V14) V15) .nil)
abbrev Q157 : X := .pk (.cons V0 (.cons V1 (.cons V7 .nil)))
abbrev Q104 : X := .cons Q157 (.cons V8 .nil)
abbrev Q105 : X := .cons (.t false) (.cons V2 (.cons (.un .len V2) (.cons N0 .nil)))
abbrev Q106 : X := .cons V2 (.cons N0 (.cons V0 (.cons (.bin .cat .lnil V1) .nil)))
abbrev Q107 : X := .bin .le (.bin (.add .i64) V29 (.bin (.mul .i64) V10 V11)) V28
abbrev Q109 : X := .cons (.un .len V3) (.cons N0 (.cons V3 (.cons .lnil .nil)))
abbrev Q110 : X := .cons N0 (.cons V0 (.cons V1 Q232))
abbrev Q111 : X := .cons V1 (.cons (.sel 0 V0 V4) (.cons (.sel 1 V0 V4) .nil))
abbrev Q112 : X := .cons V2 (.cons N0 Q188)
abbrev Q114 : X := .cons (.n (-1)) Q159
abbrev Q115 : X := .bin .seq V0 (.str ⟨#[100, 105, 103, 114, 97, 112, 104]⟩)
abbrev Q116 : X := .bin .seq V0 (.str ⟨#[99, 108, 117, 115, 116, 101, 114]⟩)
abbrev Q271 : X := .cons V5 (.cons V6 .nil)
abbrev Q203 : X := .cons V4 Q271
abbrev Q119 : X := .cons N0 (.cons V3 Q203)
abbrev Q120 : X := .cons V1 (.cons (.un .len V1) (.cons N0 (.cons V5 .nil)))
abbrev Q122 : X := .bin .cat V6 (.lcons (.cons (.sel 0 V1 V3) .nil) .lnil)
abbrev Q123 : X := .cons Q156 .nil
abbrev Q124 : X := .cons Q157 .nil
abbrev Q215 : X := .cons (.t false) (.cons N0 .nil)
abbrev Q125 : X := .cons V0 (.cons V1 Q215)
abbrev Q127 : X := .cons V0 (.cons V3 Q215)
abbrev Q128 : X := .bin .lt (.bin .min (.sel 0 V1 V3) (.sel 1 V1 V3)) N0
abbrev Q129 : X := .bin .le V4 (.bin .max (.sel 0 V1 V3) (.sel 1 V1 V3))
abbrev Q130 : X := .bin .lt (.n (-576460752303423488)) (.sel 0 V4 V2)
abbrev Q133 : X := .un .not (.bin .eq (.sel 0 V0 V2) (.sel 1 V0 V2))
abbrev Q134 : X := .cons (.sub V0 N0 V1) (.cons (.sel 0 V0 V1) .nil)
abbrev Q135 : X := .un .not (.bin .eq (.sel 0 V0 V3) (.sel 0 V1 V3))
abbrev Q137 : X := .bin .seq V0 (.str ⟨#[103, 114, 97, 112, 104]⟩)
abbrev Q138 : X := .un .not (.bin .eq (.un .len V0) (.un .len V1))
abbrev Q139 : X := .cons V0 (.cons V1 (.cons V2 (.cons N0 .nil)))
abbrev Q206 : X := .cons V5 (.cons V6 (.cons V7 .nil))
abbrev Q140 : X := .cons V4 Q206
abbrev Q268 : X := .cons V2 (.cons V3 .nil)
abbrev Q208 : X := .cons V1 Q268
abbrev Q142 : X := .cons V0 Q208
abbrev Q144 : X := .bin .cat V70 Q230
abbrev Q145 : X := .cons N0 (.cons (.t false) (.cons V1 .nil))
abbrev Q146 : X := .bin .seq V0 (.str ⟨#[110, 111, 100, 101]⟩)
abbrev Q147 : X := .bin .seq V0 (.str ⟨#[101, 100, 103, 101]⟩)
abbrev Q148 : X := .cons V0 Q215
abbrev Q149 : X := .bin .cat V6 Q229
abbrev Q150 : X := .cons N0 (.cons (.t false) (.cons V3 .nil))
abbrev Q151 : X := .bin .cat V5 (.lcons (.cons V2 .nil) .lnil)
abbrev Q152 : X := .bin .cat V3 (.lcons (.cons V1 .nil) .lnil)
abbrev Q154 : X := .cons .lnil (.cons N0 (.cons .lnil .nil))
abbrev Q155 : X := .bin .le (.psel 0 V0) (.n 17592186044416)
abbrev Q160 : X := .cons (.n 1) Q261
abbrev Q263 : X := .cons V1 (.cons V2 .nil)
abbrev Q162 : X := .cons (.n 1) Q263
abbrev Q165 : X := .cons (.n 1) Q266
abbrev Q166 : X := .cons (.n 1) (.cons V0 (.cons V3 .nil))
abbrev Q167 : X := .cons (.n 1) (.cons V0 (.cons V2 .nil))
abbrev Q168 : X := .cons (.n 1) Q268
abbrev Q169 : X := .bin .seq V0 (.str ⟨#[115, 101, 116]⟩)
abbrev Q170 : X := .cons (.bin .seq V0 (.psel 0 V2)) .nil
abbrev Q172 : X := .bin .eq (.sel 0 V1 V3) (.sel 1 V1 V3)
abbrev Q173 : X := .cons V0 (.cons V1 (.cons .lnil .nil))
abbrev Q174 : X := .cons V17 (.cons V18 (.cons V25 .nil))
abbrev Q175 : X := .cons V15 (.cons V16 (.cons V22 .nil))
abbrev Q176 : X := .bin .le (.un .len V4) (.sel 4 V2 V5)
abbrev Q178 : X := .bin .le (.un .len (.sel 5 V2 V6)) V8
abbrev Q179 : X := .bin (.sub .i64) (.un .len V3) (.n 1)
abbrev Q180 : X := .bin .lt (.sel 0 V1 V3) (.un .len V4)
abbrev Q181 : X := .bin .lt (.sel 0 V1 V3) (.un .len V5)
abbrev Q183 : X := .bin .lt (.sel 4 V5 V1) (.un .len V2)
abbrev Q184 : X := .un .not (.bin .seq V0 (.str ⟨#[]⟩))
abbrev Q187 : X := .app 69 Q261 0
abbrev Q189 : X := .app 36 Q261 0
abbrev Q190 : X := .app 39 Q261 0
abbrev Q191 : X := .cons V0 (.cons N0 (.cons N0 .nil))
abbrev Q193 : X := .cons N0 (.cons V7 (.cons V1 .nil))
abbrev Q194 : X := .cons N0 (.cons V4 (.cons V4 .nil))
abbrev Q196 : X := .cons N0 (.cons V8 (.cons V2 .nil))
abbrev Q197 : X := .cons (.un .len V2) (.cons V7 .nil)
abbrev Q198 : X := .cons N0 Q263
abbrev Q199 : X := .cons N0 (.cons V3 (.cons V4 .nil))
abbrev Q200 : X := .cons N0 Q268
abbrev Q201 : X := .cons V2 (.cons (.un .len V1) .nil)
abbrev Q267 : X := .cons V1 (.cons V4 .nil)
abbrev Q202 : X := .cons V0 Q267
abbrev Q204 : X := .cons V0 Q263
abbrev Q205 : X := .cons V2 Q265
abbrev Q264 : X := .cons V1 (.cons V3 .nil)
abbrev Q207 : X := .cons N0 Q264
abbrev Q209 : X := .cons V0 (.cons V1 (.cons V5 .nil))
abbrev Q210 : X := .cons V0 Q264
abbrev Q212 : X := .bin .lt (.sel 4 V2 V5) (.n (-1))
abbrev Q213 : X := .bin .lt (.sel 1 V4 V5) (.n (-1))
abbrev Q216 : X := .un .not (.bin .lt V7 (.n (-1)))
abbrev Q217 : X := .bin .le (.un .slen V0) (.n 16)
abbrev Q218 : X := .bin .lt (.n 256) (.un .len V3)
abbrev Q219 : X := .bin .lt (.n 256) (.un .len V1)
abbrev Q220 : X := .cons (.un (.cnv .u64) V3) .nil
abbrev Q221 : X := .cons .lnil (.cons (.n 1) .nil)
abbrev Q222 : X := .cons .lnil (.cons (.n 2) .nil)
abbrev Q223 : X := .bin .le V0 (.n 17592186044416)
abbrev Q224 : X := .bin .lt (.n 64) (.un .len V2)
abbrev Q225 : X := .bin .lt (.n 16) (.un .len V4)
abbrev Q227 : X := .cons (.bin .sidx V0 V1) .nil
abbrev Q231 : X := .cons (.bin .le N0 V2) .nil
abbrev Q234 : X := .bin .lt V1 (.un .slen V0)
abbrev Q235 : X := .bin .eq V1 (.un .slen V0)
abbrev Q238 : X := .bin .le N0 (.sel 0 V0 V2)
abbrev Q239 : X := .bin .le N0 (.sel 0 V1 V3)
abbrev Q240 : X := .bin .lt N0 (.sel 0 V3 V2)
abbrev Q241 : X := .bin (.add .i64) V0 (.n 1)
abbrev Q242 : X := .bin .le N0 (.sel 0 V0 V1)
abbrev Q243 : X := .bin .lt V1 (.un .len V4)
abbrev Q244 : X := .bin .lt V1 (.un .len V5)
abbrev Q245 : X := .bin .lt V5 (.un .len V2)
abbrev Q246 : X := .bin .lt V2 (.un .len V0)
abbrev Q247 : X := .bin .lt V3 (.un .len V0)
abbrev Q249 : X := .cons (.sel 1 V2 V5) .nil
abbrev Q250 : X := .cons (.sel 5 V2 V5) .nil
abbrev Q252 : X := .un .not (.bin .eq V7 N0)
abbrev Q253 : X := .bin .lt V4 (.un .len V0)
abbrev Q254 : X := .bin .lt V3 (.un .len V1)
abbrev Q255 : X := .un .not (.bin .eq V8 N0)
abbrev Q256 : X := .bin .lt V1 (.un .len V2)
abbrev Q257 : X := .bin .lt V1 (.un .len V0)
abbrev Q258 : X := .bin .lt V0 (.un .len V4)
abbrev Q259 : X := .un .not (.bin .lt V0 N0)
abbrev Q260 : X := .bin .lt V1 (.un .len V3)
abbrev Q262 : X := .cons V0 (.cons N0 .nil)
abbrev Q269 : X := .bin .le N0 (.psel 0 V0)
abbrev Q270 : X := .cons V0 (.cons V5 .nil)
theorem mixed : Tryd.prog.follows .mixedOrders = true := by kernel_rfl
def S20047 : Sig := ⟨[(false, [.clo]), (true, [.str, .str, i6, i6, i6, Ty3])], [(false, [.bool])], [], none⟩
def S20051 : Sig := ⟨[(false, [.clo]), (true, [.str, i6])], [(false, [.bool])], [], none⟩
def S20049 : Sig := ⟨[(false, [.clo]), (true, [.str, i6])], [(false, [.bool])], [], none⟩
def S4 : Sig := ⟨[(true, [.str, .bool, Ty0, Ty1, Ty4]), (false, [i6]), (false, [i6])], [(false, [.bool])], [], none⟩
noncomputable def c4 : Code := Tryd.f4.body.getD .skip
theorem b4 : Tryd.f4.body = some c4 := body_some (by kernel_rfl)
theorem n4 : (Tryd.f4.name == "runtime.NumGoroutine") = false := by kernel_rfl
def sg4 : List (FuncId × Sig) := []
def L4_0 : LoopSig := ⟨10401, [],
  ⟨[.any, .any, .any, (.c (.ptr 0 0)), .any, .any, (.c (.x .bool V0)), (.c (.x i6 V1)), ] ++ an 109 ++ [.any],
  [some ⟨Tt, (.box 26 [(.x .str V2), (.x .bool V3), (.x Ty0 V4), (.x Ty1 V5), (.x Ty4 V6)] false)⟩]⟩,
  7, [0, 1], ([36, 37, 38, 39, 40, 43, 44, 45, 46, 47, 8] ++ rg 48 16 ++ [6, 9, 64, 65, 66, 67, 68] ++ rg 71 8 ++ [69, 70, 41, 42, 7]), [.ret, (.exit 0)], []⟩
def L4_1 : LoopSig := ⟨10400, [],
  ⟨[] ++ an 6 ++ [(.c (.x .bool V0)), .any, (.c (.ptr 1 0)), (.c (.x i6 V1)), ] ++ an 107 ++ [.any],
  [none, some ⟨Tt, (.box 46 [(.x .str V2), (.x .str V3), (.x i6 V4), (.x i6 V5), (.x i6 V6), (.x Ty3 V7)] false)⟩]⟩,
  8, [0, 1], ([64, 65, 66, 67, 68] ++ rg 71 8 ++ [6, 69, 70, 9]), [.ret, (.exit 2)], []⟩
def L4_2 : LoopSig := ⟨10402, [],
  ⟨[.any, .any, .any, (.c (.ptr 0 0)), .any, .any, (.c (.x .bool V0)), .any, .any, .any, (.c (.x i6 V1)), ] ++ an 106 ++ [.any],
  [some ⟨Tt, (.box 26 [(.x .str V2), (.x .bool V3), (.x Ty0 V4), (.x Ty1 V5), (.x Ty4 V6)] false)⟩]⟩,
  7, [0, 1], ([79, 80, 81, 82, 83] ++ rg 86 17 ++ [6, 84, 85, 10]), [.ret, (.exit 4)], []⟩
def L4_3 : LoopSig := ⟨10403, [],
  ⟨[.any, .any, .any, (.c (.ptr 0 0)), .any, .any, (.c (.x .bool V0)), .any, .any, .any, .any, (.c (.x i6 V1)), ] ++ an 105 ++ [.any],
  [some ⟨Tt, (.box 26 [(.x .str V2), (.x .bool V3), (.x Ty0 V4), (.x Ty1 V5), (.x Ty4 V6)] false)⟩]⟩,
  7, [0, 1], ([103, 104, 105, 106, 107] ++ rg 110 8 ++ [6, 108, 109, 11]), [.ret, (.exit 6)], []⟩
def lt4 : List (Nat × LoopSig) := [(4, L4_0), (10, L4_1), (15, L4_2), (20, L4_3)]
theorem k4 : (Code.loops c4).length = 4 := by kernel_rfl
noncomputable def lb4_0 : Code := (Code.loops c4).getD 0 .skip
noncomputable def lb4_1 : Code := (Code.loops c4).getD 1 .skip
noncomputable def lb4_2 : Code := (Code.loops c4).getD 2 .skip
noncomputable def lb4_3 : Code := (Code.loops c4).getD 3 .skip
def rt4_0 : VT :=
 (.ite Q243
 (.need Tt (.c (.bin .le N0 V1))
 (.ite (.ite (.ite (.bin .lt (.n 40) (.un .slen (.sel 0 V4 V1))) Tt (.bin .lt (.n 80) (.un .slen (.sel 1 V4 V1)))) Tt (.bin .lt (.n 9) (.un .len (.sel 5 V4 V1))))
 (.ret Q145)
 (.need Tt (.pre 10400 Q17)
 (.lt (.app 10400 Q17 0) 3
 (.ite (.bin .eq V7 N0)
 (.ret (.cons N0 (.cons V8 (.cons V1 .nil))))
 (.ret (.cons (.n (-1)) (.cons V8 Q159))))))))
 (.ret Q160))
theorem le4_0 : (loopVT Tryd.prog (sgOf sg4) (ltOf lt4) L4_0 lb4_0).slim L4_0.nv [] = rt4_0 := by kernel_rfl
theorem lf4_0 : (firstRegion lb4_0).bind (ltOf lt4) = some L4_0 := by kernel_rfl
theorem lk4_0 : (Code.loops lb4_0).length = 1 := by kernel_rfl
theorem li4_0_0 : (Code.loops lb4_0).getD 0 .skip = lb4_1 := by kernel_rfl
def rt4_1 : VT :=
 (.ite (.bin .lt V1 (.un .len V7))
 (.need Tt (.c (.bin .le N0 V1))
 (.ite (.bin .lt (.n 40) (.un .slen (.sel 0 V7 V1)))
 (.ret Q145)
 (.ret Q87)))
 (.ret Q160))
theorem le4_1 : (loopVT Tryd.prog (sgOf sg4) (ltOf lt4) L4_1 lb4_1).slim L4_1.nv [] = rt4_1 := by kernel_rfl
theorem lf4_1 : (firstRegion lb4_1).bind (ltOf lt4) = some L4_1 := by kernel_rfl
theorem lk4_1 : (Code.loops lb4_1).length = 0 := by kernel_rfl
def rt4_2 : VT :=
 (.ite Q244
 (.need Tt (.c (.bin .le N0 V1))
 (.ite (.ite (.bin .lt (.n 80) (.un .slen (.sel 4 V5 V1))) Tt (.bin .lt (.n 4) (.sel 6 V5 V1)))
 (.ret Q145)
 (.ret Q87)))
 (.ret Q160))
theorem le4_2 : (loopVT Tryd.prog (sgOf sg4) (ltOf lt4) L4_2 lb4_2).slim L4_2.nv [] = rt4_2 := by kernel_rfl
theorem lf4_2 : (firstRegion lb4_2).bind (ltOf lt4) = some L4_2 := by kernel_rfl
theorem lk4_2 : (Code.loops lb4_2).length = 0 := by kernel_rfl
def rt4_3 : VT :=
 (.ite (.bin .lt V1 (.un .len V6))
 (.need Tt (.c (.bin .le N0 V1))
 (.ite (.bin .lt (.n 40) (.un .slen (.sel 0 V6 V1)))
 (.ret Q145)
 (.ret Q87)))
 (.ret Q160))
theorem le4_3 : (loopVT Tryd.prog (sgOf sg4) (ltOf lt4) L4_3 lb4_3).slim L4_3.nv [] = rt4_3 := by kernel_rfl
theorem lf4_3 : (firstRegion lb4_3).bind (ltOf lt4) = some L4_3 := by kernel_rfl
theorem lk4_3 : (Code.loops lb4_3).length = 0 := by kernel_rfl
def vt4 : VT :=
 (.ite (.ite (.ite (.ite Q245 Tt (.bin .lt V6 (.un .len V3))) Tt (.bin .lt (.n 6) (.un .len V4))) Tt (.bin .lt (.n 40) (.un .slen V0)))
 (.ret (.cons (.t false) .nil))
 (.need Tt (.pre 10401 Q58)
 (.lt (.app 10401 Q58 0) 3
 (.ite (.bin .eq V7 N0)
 (.ret (.cons V8 .nil))
 (.need Tt (.pre 10402 Q70)
 (.lt (.app 10402 Q70 0) 3
 (.ite (.bin .eq V10 N0)
 (.ret (.cons V11 .nil))
 (.need Tt (.pre 10403 Q65)
 (.lt (.app 10403 Q65 0) 3
 (.ite (.bin .eq V13 N0)
 (.ret (.cons V14 .nil))
 (.ret (.cons Tt .nil))))))))))))
theorem e4 : (fnVT Tryd.prog (sgOf sg4) (ltOf lt4) S4 Tryd.f4 c4).slim (S4.ps.map fun p => p.2.length).sum [] = vt4 := by kernel_rfl
def S37 : Sig := ⟨[(false, [(.int .u8)])], [(false, [.bool])], [], none⟩
noncomputable def c37 : Code := Tryd.f37.body.getD .skip
theorem b37 : Tryd.f37.body = some c37 := body_some (by kernel_rfl)
theorem n37 : (Tryd.f37.name == "runtime.NumGoroutine") = false := by kernel_rfl
def sg37 : List (FuncId × Sig) := []
def lt37 : List (Nat × LoopSig) := []
theorem k37 : (Code.loops c37).length = 0 := by kernel_rfl
def vt37 : VT :=
 (.ret Q16)
theorem e37 : (fnVT Tryd.prog (sgOf sg37) (ltOf lt37) S37 Tryd.f37 c37).slim (S37.ps.map fun p => p.2.length).sum [] = vt37 := by kernel_rfl
def T37 : FuncId → List D → List D := tabOf []
def fn37 (ρ : List D) : List D := vt37.val T37 ρ
theorem m37 : Meets Tryd.prog 37 S37 (fun _ => True) fn37 := meets_easy (sgl := sg37) (Φ := T37) mixed ((fun _ h => nomatch h)) Tryd.func37 b37 n37 k37 e37 (by kernel_rfl)
def S38 : Sig := ⟨[(false, [(.int .u8)])], [(false, [.bool])], [], none⟩
noncomputable def c38 : Code := Tryd.f38.body.getD .skip
theorem b38 : Tryd.f38.body = some c38 := body_some (by kernel_rfl)
theorem n38 : (Tryd.f38.name == "runtime.NumGoroutine") = false := by kernel_rfl
def sg38 : List (FuncId × Sig) := []
def lt38 : List (Nat × LoopSig) := []
theorem k38 : (Code.loops c38).length = 0 := by kernel_rfl
def vt38 : VT :=
 (.ret Q83)
theorem e38 : (fnVT Tryd.prog (sgOf sg38) (ltOf lt38) S38 Tryd.f38 c38).slim (S38.ps.map fun p => p.2.length).sum [] = vt38 := by kernel_rfl
def T38 : FuncId → List D → List D := tabOf []
def fn38 (ρ : List D) : List D := vt38.val T38 ρ
theorem m38 : Meets Tryd.prog 38 S38 (fun _ => True) fn38 := meets_easy (sgl := sg38) (Φ := T38) mixed ((fun _ h => nomatch h)) Tryd.func38 b38 n38 k38 e38 (by kernel_rfl)
def S21 : Sig := ⟨[(false, [.str])], [(false, [i6])], [], none⟩
noncomputable def c21 : Code := Tryd.f21.body.getD .skip
theorem b21 : Tryd.f21.body = some c21 := body_some (by kernel_rfl)
theorem n21 : (Tryd.f21.name == "runtime.NumGoroutine") = false := by kernel_rfl
def sg21 : List (FuncId × Sig) := [(37, S37), (38, S38)]
def L21_0 : LoopSig := ⟨12100, [],
  ⟨[(.c (.x .str V0)), .any, .any, (.c (.x i6 V1)), ] ++ an 22 ++ [.any],
  []⟩,
  2, [1], (rg 4 22 ++ [3]), [(.exit 0)], []⟩
def lt21 : List (Nat × LoopSig) := [(2, L21_0)]
theorem k21 : (Code.loops c21).length = 1 := by kernel_rfl
noncomputable def lb21_0 : Code := (Code.loops c21).getD 0 .skip
def rt21_0 : VT :=
 (.need Q234 (.c (.bin .le N0 V1))
 (.need Q234 (.c Q234)
 (.need Q234 (.pre 37 Q227)
 (.lt (.app 37 Q227 0) 1
 (.need (.ite (.ite Q234 (.un .not V2) (.t false)) (.bin .lt N0 V1) (.t false)) (.c (.bin .le N0 V1))
 (.need (.ite (.ite Q234 (.un .not V2) (.t false)) (.bin .lt N0 V1) (.t false)) (.c Q234)
 (.need (.ite (.ite Q234 (.un .not V2) (.t false)) (.bin .lt N0 V1) (.t false)) (.pre 38 Q227)
 (.lt (.app 38 Q227 0) 1
 (.ite (.ite Q234 (.ite V2 Tt (.ite (.bin .lt N0 V1) V3 (.t false))) (.t false))
 (.ret Q114)
 (.ret (.cons N0 (.cons V1 .nil))))))))))))
theorem le21_0 : (loopVT Tryd.prog (sgOf sg21) (ltOf lt21) L21_0 lb21_0).slim L21_0.nv [] = rt21_0 := by kernel_rfl
theorem lf21_0 : (firstRegion lb21_0).bind (ltOf lt21) = some L21_0 := by kernel_rfl
theorem lk21_0 : (Code.loops lb21_0).length = 0 := by kernel_rfl
def vt21 : VT :=
 (.need Tt (.pre 12100 Q262)
 (.lt (.app 12100 Q262 0) 2
 (.ret (.cons V2 .nil))))
theorem e21 : (fnVT Tryd.prog (sgOf sg21) (ltOf lt21) S21 Tryd.f21 c21).slim (S21.ps.map fun p => p.2.length).sum [] = vt21 := by kernel_rfl
def S22 : Sig := ⟨[(false, [.str])], [(false, [.bool])], [], none⟩
noncomputable def c22 : Code := Tryd.f22.body.getD .skip
theorem b22 : Tryd.f22.body = some c22 := body_some (by kernel_rfl)
theorem n22 : (Tryd.f22.name == "runtime.NumGoroutine") = false := by kernel_rfl
def sg22 : List (FuncId × Sig) := []
def lt22 : List (Nat × LoopSig) := []
theorem k22 : (Code.loops c22).length = 0 := by kernel_rfl
def vt22 : VT :=
 (.ite Q115
 (.ret (.cons Tt .nil))
 (.ite Q137
 (.ret (.cons Tt .nil))
 (.ite Q146
 (.ret (.cons Tt .nil))
 (.ite Q147
 (.ret (.cons Tt .nil))
 (.ite Q169
 (.ret (.cons Tt .nil))
 (.ite Q116
 (.ret (.cons Tt .nil))
 (.ret (.cons (.t false) .nil))))))))
theorem e22 : (fnVT Tryd.prog (sgOf sg22) (ltOf lt22) S22 Tryd.f22 c22).slim (S22.ps.map fun p => p.2.length).sum [] = vt22 := by kernel_rfl
def T22 : FuncId → List D → List D := tabOf []
def fn22 (ρ : List D) : List D := vt22.val T22 ρ
theorem m22 : Meets Tryd.prog 22 S22 (fun _ => True) fn22 := meets_easy (sgl := sg22) (Φ := T22) mixed ((fun _ h => nomatch h)) Tryd.func22 b22 n22 k22 e22 (by kernel_rfl)
def S10 : Sig := ⟨[(false, [.str])], [(false, [.bool])], [], none⟩
noncomputable def c10 : Code := Tryd.f10.body.getD .skip
theorem b10 : Tryd.f10.body = some c10 := body_some (by kernel_rfl)
theorem n10 : (Tryd.f10.name == "runtime.NumGoroutine") = false := by kernel_rfl
def sg10 : List (FuncId × Sig) := [(21, S21), (22, S22)]
def lt10 : List (Nat × LoopSig) := []
theorem k10 : (Code.loops c10).length = 0 := by kernel_rfl
def vt10 : VT :=
 (.need Q184 (.pre 21 (.cons V0 .nil))
 (.lt (.app 21 (.cons V0 .nil) 0) 1
 (.need (.ite (.ite Q184 Q235 (.t false)) Q217 (.t false)) (.pre 22 (.cons V0 .nil))
 (.lt (.app 22 (.cons V0 .nil) 0) 1
 (.ret (.cons (.ite (.ite (.ite Q184 Q235 (.t false)) Q217 (.t false)) (.un .not V2) (.t false)) .nil))))))
theorem e10 : (fnVT Tryd.prog (sgOf sg10) (ltOf lt10) S10 Tryd.f10 c10).slim (S10.ps.map fun p => p.2.length).sum [] = vt10 := by kernel_rfl
def S23 : Sig := ⟨[(true, [.str, .bool, Ty0, Ty1, Ty4]), (false, [.str])], [(false, [i6])], [], none⟩
noncomputable def c23 : Code := Tryd.f23.body.getD .skip
theorem b23 : Tryd.f23.body = some c23 := body_some (by kernel_rfl)
theorem n23 : (Tryd.f23.name == "runtime.NumGoroutine") = false := by kernel_rfl
def sg23 : List (FuncId × Sig) := []
def L23_0 : LoopSig := ⟨12300, [],
  ⟨[.any, (.c (.x .str V0)), (.c (.ptr 0 0)), .any, (.c (.x i6 V1)), (.c (.x i6 V2)), ] ++ an 15 ++ [.any],
  [some ⟨Tt, (.box 26 [(.x .str V3), (.x .bool V4), (.x Ty0 V5), (.x Ty1 V6), (.x Ty4 V7)] false)⟩]⟩,
  8, [1, 2], ([6, 7, 8, 9, 10] ++ rg 13 9 ++ [4, 11, 12, 5]), [.ret, (.exit 0)], []⟩
def lt23 : List (Nat × LoopSig) := [(2, L23_0)]
theorem k23 : (Code.loops c23).length = 1 := by kernel_rfl
noncomputable def lb23_0 : Code := (Code.loops c23).getD 0 .skip
def rt23_0 : VT :=
 (.ite (.bin .lt V2 (.un .len V5))
 (.need Tt (.c (.bin .le N0 V2))
 (.ite (.bin .seq (.sel 0 V5 V2) V0)
 (.ret (.cons N0 (.cons V2 (.cons V2 .nil))))
 (.ret Q89)))
 (.ret Q162))
theorem le23_0 : (loopVT Tryd.prog (sgOf sg23) (ltOf lt23) L23_0 lb23_0).slim L23_0.nv [] = rt23_0 := by kernel_rfl
theorem lf23_0 : (firstRegion lb23_0).bind (ltOf lt23) = some L23_0 := by kernel_rfl
theorem lk23_0 : (Code.loops lb23_0).length = 0 := by kernel_rfl
def vt23 : VT :=
 (.need Tt (.pre 12300 Q53)
 (.lt (.app 12300 Q53 0) 3
 (.ite (.bin .eq V6 N0)
 (.ret (.cons V7 .nil))
 (.ret (.cons (.n (-1)) .nil)))))
theorem e23 : (fnVT Tryd.prog (sgOf sg23) (ltOf lt23) S23 Tryd.f23 c23).slim (S23.ps.map fun p => p.2.length).sum [] = vt23 := by kernel_rfl
def S24 : Sig := ⟨[(false, [.str])], [(false, [.bool])], [], none⟩
noncomputable def c24 : Code := Tryd.f24.body.getD .skip
theorem b24 : Tryd.f24.body = some c24 := body_some (by kernel_rfl)
theorem n24 : (Tryd.f24.name == "runtime.NumGoroutine") = false := by kernel_rfl
def sg24 : List (FuncId × Sig) := []
def L24_0 : LoopSig := ⟨12400, [],
  ⟨[(.c (.x .str V0)), .any, (.c (.x .bool V1)), (.c (.x i6 V2)), ] ++ an 15 ++ [.any],
  []⟩,
  3, [1, 2], ([4, 5, 6, 7] ++ rg 10 10 ++ [2, 8, 9, 3]), [.ret, (.exit 0)], []⟩
def lt24 : List (Nat × LoopSig) := [(2, L24_0)]
theorem k24 : (Code.loops c24).length = 1 := by kernel_rfl
noncomputable def lb24_0 : Code := (Code.loops c24).getD 0 .skip
def rt24_0 : VT :=
 (.ite (.bin .lt V2 (.un .slen V0))
 (.need Tt (.c (.bin .le N0 V2))
 (.ite (.ite (.bin .lt (.bin .sidx V0 V2) (.n 32)) Tt (.bin .lt (.n 126) (.bin .sidx V0 V2)))
 (.ret (.cons N0 (.cons (.t false) (.cons V2 .nil))))
 (.ret Q89)))
 (.ret Q162))
theorem le24_0 : (loopVT Tryd.prog (sgOf sg24) (ltOf lt24) L24_0 lb24_0).slim L24_0.nv [] = rt24_0 := by kernel_rfl
theorem lf24_0 : (firstRegion lb24_0).bind (ltOf lt24) = some L24_0 := by kernel_rfl
theorem lk24_0 : (Code.loops lb24_0).length = 0 := by kernel_rfl
def vt24 : VT :=
 (.need Tt (.pre 12400 Q148)
 (.lt (.app 12400 Q148 0) 3
 (.ite (.bin .eq V1 N0)
 (.ret (.cons V2 .nil))
 (.ret (.cons Tt .nil)))))
theorem e24 : (fnVT Tryd.prog (sgOf sg24) (ltOf lt24) S24 Tryd.f24 c24).slim (S24.ps.map fun p => p.2.length).sum [] = vt24 := by kernel_rfl
def S25 : Sig := ⟨[(false, [Ty3])], [(false, [i6])], [], none⟩
noncomputable def c25 : Code := Tryd.f25.body.getD .skip
theorem b25 : Tryd.f25.body = some c25 := body_some (by kernel_rfl)
theorem n25 : (Tryd.f25.name == "runtime.NumGoroutine") = false := by kernel_rfl
def sg25 : List (FuncId × Sig) := [(10, S10)]
def L25_0 : LoopSig := ⟨12501, [],
  ⟨[(.c (.x Ty3 V0)), .any, (.c (.x i6 V1)), (.c (.x i6 V2)), ] ++ an 43 ++ [.any],
  []⟩,
  3, [1, 2], ([5, 6, 7, 8] ++ rg 11 7 ++ [2, 4, 18, 19, 20] ++ rg 23 11 ++ [21, 22] ++ rg 34 14 ++ [9, 10, 3]), [.ret, (.exit 0)], []⟩
def L25_1 : LoopSig := ⟨12500, [],
  ⟨[(.c (.x Ty3 V0)), .any, (.c (.x i6 V1)), (.c (.x i6 V2)), (.c (.x i6 V3)), ] ++ an 42 ++ [.any],
  []⟩,
  4, [1, 3], ([18, 19, 20] ++ rg 23 11 ++ [2, 21, 22, 4]), [.ret, (.exit 2)], []⟩
def lt25 : List (Nat × LoopSig) := [(2, L25_0), (7, L25_1)]
theorem k25 : (Code.loops c25).length = 2 := by kernel_rfl
noncomputable def lb25_0 : Code := (Code.loops c25).getD 0 .skip
noncomputable def lb25_1 : Code := (Code.loops c25).getD 1 .skip
def rt25_0 : VT :=
 (.ite Q246
 (.need Tt (.c (.bin .le N0 V2))
 (.need Tt (.pre 10 (.cons (.sel 0 V0 V2) .nil))
 (.lt (.app 10 (.cons (.sel 0 V0 V2) .nil) 0) 1
 (.ite (.un .not V3)
 (.ret (.cons N0 (.cons (.n 5) (.cons V2 .nil))))
 (.need Tt (.pre 12500 Q139)
 (.lt (.app 12500 Q139 0) 3
 (.ite (.bin .eq V4 N0)
 (.ret (.cons N0 (.cons V5 (.cons V2 .nil))))
 (.ite (.ite (.bin .lt (.sel 1 V0 V2) N0) Tt (.bin .lt (.n 3) (.sel 1 V0 V2)))
 (.ret (.cons N0 (.cons (.n 7) (.cons V2 .nil))))
 (.ret (.cons (.n (-1)) (.cons V5 Q161)))))))))))
 (.ret Q162))
theorem le25_0 : (loopVT Tryd.prog (sgOf sg25) (ltOf lt25) L25_0 lb25_0).slim L25_0.nv [] = rt25_0 := by kernel_rfl
theorem lf25_0 : (firstRegion lb25_0).bind (ltOf lt25) = some L25_0 := by kernel_rfl
theorem lk25_0 : (Code.loops lb25_0).length = 1 := by kernel_rfl
theorem li25_0_0 : (Code.loops lb25_0).getD 0 .skip = lb25_1 := by kernel_rfl
def rt25_1 : VT :=
 (.ite (.bin .lt V3 V2)
 (.need Tt (.c (.bin .le N0 V3))
 (.need Tt (.c Q247)
 (.need Tt (.c (.bin .le N0 V2))
 (.need Tt (.c Q246)
 (.ite (.bin .seq (.sel 0 V0 V3) (.sel 0 V0 V2))
 (.ret (.cons N0 (.cons (.n 6) (.cons V3 .nil))))
 (.ret (.cons (.n (-1)) (.cons V1 Q163))))))))
 (.ret (.cons (.n 1) Q264)))
theorem le25_1 : (loopVT Tryd.prog (sgOf sg25) (ltOf lt25) L25_1 lb25_1).slim L25_1.nv [] = rt25_1 := by kernel_rfl
theorem lf25_1 : (firstRegion lb25_1).bind (ltOf lt25) = some L25_1 := by kernel_rfl
theorem lk25_1 : (Code.loops lb25_1).length = 0 := by kernel_rfl
def vt25 : VT :=
 (.need Tt (.pre 12501 Q191)
 (.lt (.app 12501 Q191 0) 3
 (.ite (.bin .eq V1 N0)
 (.ret (.cons V2 .nil))
 (.ret (.cons N0 .nil)))))
theorem e25 : (fnVT Tryd.prog (sgOf sg25) (ltOf lt25) S25 Tryd.f25 c25).slim (S25.ps.map fun p => p.2.length).sum [] = vt25 := by kernel_rfl
def S11 : Sig := ⟨[(true, [.str, .bool, Ty0, Ty1, Ty4]), (false, [i6])], [(false, [i6])], [], none⟩
noncomputable def c11 : Code := Tryd.f11.body.getD .skip
theorem b11 : Tryd.f11.body = some c11 := body_some (by kernel_rfl)
theorem n11 : (Tryd.f11.name == "runtime.NumGoroutine") = false := by kernel_rfl
def sg11 : List (FuncId × Sig) := [(10, S10), (23, S23), (24, S24), (25, S25)]
def lt11 : List (Nat × LoopSig) := []
theorem k11 : (Code.loops c11).length = 0 := by kernel_rfl
def vt11 : VT :=
 (.need Tt (.c (.bin .le N0 V5))
 (.need Tt (.c Q245)
 (.need Tt (.pre 10 Q248)
 (.lt (.app 10 Q248 0) 1
 (.ite (.un .not V6)
 (.ret (.cons (.n 5) .nil))
 (.need Tt (.pre 23 Q66)
 (.lt (.app 23 Q66 0) 1
 (.ite (.un .not (.bin .eq V7 V5))
 (.ret (.cons (.n 6) .nil))
 (.ite (.bin .lt (.n 32) (.un .slen (.sel 1 V2 V5)))
 (.ret (.cons (.n 2) .nil))
 (.need Tt (.pre 24 Q249)
 (.lt (.app 24 Q249 0) 1
 (.ite (.un .not V8)
 (.ret (.cons (.n 7) .nil))
 (.ite (.ite (.ite (.ite (.ite (.ite (.bin .lt (.sel 2 V2 V5) (.n 1)) Tt (.bin .lt (.n 1048576) (.sel 2 V2 V5))) Tt (.bin .lt (.sel 3 V2 V5) (.n 1))) Tt (.bin .lt (.n 1048576) (.sel 3 V2 V5))) Tt Q212) Tt Q176)
 (.ret (.cons (.n 3) .nil))
 (.ite (.bin .lt (.n 8) (.un .len (.sel 5 V2 V5)))
 (.ret (.cons (.n 2) .nil))
 (.need Tt (.pre 25 Q250)
 (.lt (.app 25 Q250 0) 1
 (.ret (.cons V9 .nil))))))))))))))))))
theorem e11 : (fnVT Tryd.prog (sgOf sg11) (ltOf lt11) S11 Tryd.f11 c11).slim (S11.ps.map fun p => p.2.length).sum [] = vt11 := by kernel_rfl
def S26 : Sig := ⟨[(true, [.str, .bool, Ty0, Ty1, Ty4]), (false, [i6])], [(false, [i6])], [], none⟩
noncomputable def c26 : Code := Tryd.f26.body.getD .skip
theorem b26 : Tryd.f26.body = some c26 := body_some (by kernel_rfl)
theorem n26 : (Tryd.f26.name == "runtime.NumGoroutine") = false := by kernel_rfl
def sg26 : List (FuncId × Sig) := []
def L26_0 : LoopSig := ⟨12600, [],
  ⟨[.any, (.c (.x i6 V0)), (.c (.ptr 0 0)), .any, .any, (.c (.x i6 V1)), ] ++ an 10 ++ [.any],
  [some ⟨Tt, (.box 26 [(.x .str V2), (.x .bool V3), (.x Ty0 V4), (.x Ty1 V5), (.x Ty4 V6)] false)⟩]⟩,
  7, [0, 1], ([6, 7, 8, 9, 5] ++ rg 10 6 ++ [1]), [(.exit 0)], []⟩
def lt26 : List (Nat × LoopSig) := [(2, L26_0)]
theorem k26 : (Code.loops c26).length = 1 := by kernel_rfl
noncomputable def lb26_0 : Code := (Code.loops c26).getD 0 .skip
def rt26_0 : VT :=
 (.ite (.bin .le N0 V0)
 (.need Tt (.c (.bin .lt V0 (.un .len V6)))
 (.ret (.cons (.n (-1)) (.cons (.sel 1 V6 V0) Q159))))
 (.ret Q192))
theorem le26_0 : (loopVT Tryd.prog (sgOf sg26) (ltOf lt26) L26_0 lb26_0).slim L26_0.nv [] = rt26_0 := by kernel_rfl
theorem lf26_0 : (firstRegion lb26_0).bind (ltOf lt26) = some L26_0 := by kernel_rfl
theorem lk26_0 : (Code.loops lb26_0).length = 0 := by kernel_rfl
def vt26 : VT :=
 (.need Tt (.pre 12600 Q72)
 (.lt (.app 12600 Q72 0) 3
 (.ret (.cons V8 .nil))))
theorem e26 : (fnVT Tryd.prog (sgOf sg26) (ltOf lt26) S26 Tryd.f26 c26).slim (S26.ps.map fun p => p.2.length).sum [] = vt26 := by kernel_rfl
def S12 : Sig := ⟨[(true, [.str, .bool, Ty0, Ty1, Ty4]), (false, [i6])], [(false, [i6])], [], none⟩
noncomputable def c12 : Code := Tryd.f12.body.getD .skip
theorem b12 : Tryd.f12.body = some c12 := body_some (by kernel_rfl)
theorem n12 : (Tryd.f12.name == "runtime.NumGoroutine") = false := by kernel_rfl
def sg12 : List (FuncId × Sig) := [(10, S10), (23, S23), (26, S26)]
def L12_0 : LoopSig := ⟨11200, [],
  ⟨[.any, (.c (.x i6 V0)), (.c (.ptr 0 0)), .any, (.c (.x i6 V1)), (.c (.ptr 1 0)), (.c (.x i6 V2)), ] ++ an 40 ++ [.any],
  [some ⟨Tt, (.box 26 [(.x .str V3), (.x .bool V4), (.x Ty0 V5), (.x Ty1 V6), (.x Ty4 V7)] false)⟩, some ⟨Tt, (.box 50 [(.x .str V8), (.x i6 V9)] false)⟩]⟩,
  10, [1, 2], ([16, 17, 18] ++ rg 21 9 ++ [4, 19, 20, 6]), [.ret, (.exit 0)], []⟩
def lt12 : List (Nat × LoopSig) := [(5, L12_0)]
theorem k12 : (Code.loops c12).length = 1 := by kernel_rfl
noncomputable def lb12_0 : Code := (Code.loops c12).getD 0 .skip
def rt12_0 : VT :=
 (.ite (.bin .lt V2 V0)
 (.need Tt (.c (.bin .le N0 V2))
 (.need Tt (.c (.bin .lt V2 (.un .len V7)))
 (.ite (.bin .seq (.sel 0 V7 V2) V8)
 (.ret (.cons N0 (.cons (.n 6) (.cons V2 .nil))))
 (.ret Q89))))
 (.ret Q162))
theorem le12_0 : (loopVT Tryd.prog (sgOf sg12) (ltOf lt12) L12_0 lb12_0).slim L12_0.nv [] = rt12_0 := by kernel_rfl
theorem lf12_0 : (firstRegion lb12_0).bind (ltOf lt12) = some L12_0 := by kernel_rfl
theorem lk12_0 : (Code.loops lb12_0).length = 0 := by kernel_rfl
def vt12 : VT :=
 (.need Tt (.c (.bin .le N0 V5))
 (.need Tt (.c (.bin .lt V5 (.un .len V4)))
 (.need Tt (.pre 10 Q251)
 (.lt (.app 10 Q251 0) 1
 (.ite (.un .not V6)
 (.ret (.cons (.n 5) .nil))
 (.need Tt (.pre 11200 Q25)
 (.lt (.app 11200 Q25 0) 3
 (.ite (.bin .eq V7 N0)
 (.ret (.cons V8 .nil))
 (.need Tt (.pre 23 Q67)
 (.lt (.app 23 Q67 0) 1
 (.ite (.bin .le N0 V10)
 (.ret (.cons (.n 6) .nil))
 (.ite (.ite Q213 Tt (.bin .le V5 (.sel 1 V4 V5)))
 (.ret (.cons (.n 3) .nil))
 (.need Tt (.pre 26 Q90)
 (.lt (.app 26 Q90 0) 1
 (.ite (.bin .lt (.n 6) V11)
 (.ret (.cons (.n 2) .nil))
 (.ret (.cons N0 .nil)))))))))))))))))
theorem e12 : (fnVT Tryd.prog (sgOf sg12) (ltOf lt12) S12 Tryd.f12 c12).slim (S12.ps.map fun p => p.2.length).sum [] = vt12 := by kernel_rfl
def S13 : Sig := ⟨[(true, [.str, .bool, Ty0, Ty1, Ty4]), (true, [i6, i6, i6, i6, .str, i6, i6])], [(false, [i6])], [], none⟩
noncomputable def c13 : Code := Tryd.f13.body.getD .skip
theorem b13 : Tryd.f13.body = some c13 := body_some (by kernel_rfl)
theorem n13 : (Tryd.f13.name == "runtime.NumGoroutine") = false := by kernel_rfl
def sg13 : List (FuncId × Sig) := [(24, S24)]
def lt13 : List (Nat × LoopSig) := []
theorem k13 : (Code.loops c13).length = 0 := by kernel_rfl
def vt13 : VT :=
 (.ite (.ite (.ite (.ite (.bin .lt V5 N0) Tt (.bin .le (.un .len V2) V5)) Tt (.bin .lt V6 N0)) Tt (.bin .le (.un .len V2) V6))
 (.ret (.cons (.n 3) .nil))
 (.need Q216 (.c (.bin .le N0 V5))
 (.need Q216 (.c Q245)
 (.need Q33 (.c (.bin .le N0 V6))
 (.need Q33 (.c (.bin .lt V6 (.un .len V2)))
 (.ite (.ite (.ite (.ite (.bin .lt V7 (.n (-1))) Tt Q177) Tt (.bin .lt V8 (.n (-1)))) Tt Q178)
 (.ret (.cons (.n 3) .nil))
 (.ite (.bin .lt (.n 32) (.un .slen V9))
 (.ret (.cons (.n 2) .nil))
 (.need Tt (.pre 24 (.cons V9 .nil))
 (.lt (.app 24 (.cons V9 .nil) 0) 1
 (.ite (.ite (.ite (.ite (.ite (.un .not V12) Tt (.bin .lt V10 (.n 1))) Tt (.bin .lt (.n 1000) V10)) Tt (.bin .lt V11 (.n 1))) Tt (.bin .lt (.n 64) V11))
 (.ret (.cons (.n 7) .nil))
 (.ret (.cons N0 .nil))))))))))))
theorem e13 : (fnVT Tryd.prog (sgOf sg13) (ltOf lt13) S13 Tryd.f13 c13).slim (S13.ps.map fun p => p.2.length).sum [] = vt13 := by kernel_rfl
def S5 : Sig := ⟨[(true, [.str, .bool, Ty0, Ty1, Ty4])], [(false, [i6])], [], none⟩
noncomputable def c5 : Code := Tryd.f5.body.getD .skip
theorem b5 : Tryd.f5.body = some c5 := body_some (by kernel_rfl)
theorem n5 : (Tryd.f5.name == "runtime.NumGoroutine") = false := by kernel_rfl
def sg5 : List (FuncId × Sig) := [(10, S10), (11, S11), (12, S12), (13, S13)]
def L5_0 : LoopSig := ⟨10500, [],
  ⟨[.any, (.c (.ptr 0 0)), (.c (.x i6 V0)), (.c (.x i6 V1)), ] ++ an 67 ++ [.any],
  [some ⟨Tt, (.box 26 [(.x .str V2), (.x .bool V3), (.x Ty0 V4), (.x Ty1 V5), (.x Ty4 V6)] false)⟩]⟩,
  7, [0, 1], [29, 30, 31, 32, 33, 36, 37, 38, 4, 39, 40, 41, 2, 34, 35, 3], [.ret, (.exit 0)], []⟩
def L5_1 : LoopSig := ⟨10501, [],
  ⟨[.any, (.c (.ptr 0 0)), (.c (.x i6 V0)), .any, .any, (.c (.x i6 V1)), ] ++ an 65 ++ [.any],
  [some ⟨Tt, (.box 26 [(.x .str V2), (.x .bool V3), (.x Ty0 V4), (.x Ty1 V5), (.x Ty4 V6)] false)⟩]⟩,
  7, [0, 1], [42, 43, 44, 45, 46, 49, 50, 51, 6, 52, 53, 54, 2, 47, 48, 5], [.ret, (.exit 2)], []⟩
def L5_2 : LoopSig := ⟨10502, [],
  ⟨[.any, (.c (.ptr 0 0)), (.c (.x i6 V0)), .any, .any, .any, .any, (.c (.x i6 V1)), ] ++ an 63 ++ [.any],
  [some ⟨Tt, (.box 26 [(.x .str V2), (.x .bool V3), (.x Ty0 V4), (.x Ty1 V5), (.x Ty4 V6)] false)⟩]⟩,
  7, [0, 1], ([55, 56, 57, 58, 59] ++ rg 62 7 ++ [8, 69, 70, 71, 2, 60, 61, 7]), [.ret, (.exit 4)], []⟩
def lt5 : List (Nat × LoopSig) := [(6, L5_0), (12, L5_1), (18, L5_2)]
theorem k5 : (Code.loops c5).length = 3 := by kernel_rfl
noncomputable def lb5_0 : Code := (Code.loops c5).getD 0 .skip
noncomputable def lb5_1 : Code := (Code.loops c5).getD 1 .skip
noncomputable def lb5_2 : Code := (Code.loops c5).getD 2 .skip
def rt5_0 : VT :=
 (.ite Q243
 (.need Tt (.pre 11 Q91)
 (.lt (.app 11 Q91 0) 1
 (.ite Q252
 (.ret Q193)
 (.ret Q87))))
 (.ret Q160))
theorem le5_0 : (loopVT Tryd.prog (sgOf sg5) (ltOf lt5) L5_0 lb5_0).slim L5_0.nv [] = rt5_0 := by kernel_rfl
theorem lf5_0 : (firstRegion lb5_0).bind (ltOf lt5) = some L5_0 := by kernel_rfl
theorem lk5_0 : (Code.loops lb5_0).length = 0 := by kernel_rfl
def rt5_1 : VT :=
 (.ite (.bin .lt V1 (.un .len V6))
 (.need Tt (.pre 12 Q91)
 (.lt (.app 12 Q91 0) 1
 (.ite Q252
 (.ret Q193)
 (.ret Q87))))
 (.ret Q160))
theorem le5_1 : (loopVT Tryd.prog (sgOf sg5) (ltOf lt5) L5_1 lb5_1).slim L5_1.nv [] = rt5_1 := by kernel_rfl
theorem lf5_1 : (firstRegion lb5_1).bind (ltOf lt5) = some L5_1 := by kernel_rfl
theorem lk5_1 : (Code.loops lb5_1).length = 0 := by kernel_rfl
def rt5_2 : VT :=
 (.ite Q244
 (.need Tt (.c (.bin .le N0 V1))
 (.need Tt (.pre 13 Q9)
 (.lt (.app 13 Q9 0) 1
 (.ite Q252
 (.ret Q193)
 (.ret Q87)))))
 (.ret Q160))
theorem le5_2 : (loopVT Tryd.prog (sgOf sg5) (ltOf lt5) L5_2 lb5_2).slim L5_2.nv [] = rt5_2 := by kernel_rfl
theorem lf5_2 : (firstRegion lb5_2).bind (ltOf lt5) = some L5_2 := by kernel_rfl
theorem lk5_2 : (Code.loops lb5_2).length = 0 := by kernel_rfl
def vt5 : VT :=
 (.ite (.ite (.ite Q224 Tt Q218) Tt Q225)
 (.ret (.cons (.n 2) .nil))
 (.need Tt (.pre 10 (.cons V0 .nil))
 (.lt (.app 10 (.cons V0 .nil) 0) 1
 (.ite (.un .not V5)
 (.ret (.cons (.n 5) .nil))
 (.need Tt (.pre 10500 Q71)
 (.lt (.app 10500 Q71 0) 3
 (.ite (.bin .eq V6 N0)
 (.ret (.cons V7 .nil))
 (.need Tt (.pre 10501 Q73)
 (.lt (.app 10501 Q73 0) 3
 (.ite (.bin .eq V9 N0)
 (.ret (.cons V10 .nil))
 (.need Tt (.pre 10502 Q68)
 (.lt (.app 10502 Q68 0) 3
 (.ite (.bin .eq V12 N0)
 (.ret (.cons V13 .nil))
 (.ret (.cons N0 .nil)))))))))))))))
theorem e5 : (fnVT Tryd.prog (sgOf sg5) (ltOf lt5) S5 Tryd.f5 c5).slim (S5.ps.map fun p => p.2.length).sum [] = vt5 := by kernel_rfl
def S14 : Sig := ⟨[], [(true, [.str, .bool, Ty0, Ty1, Ty4])], [], none⟩
noncomputable def c14 : Code := Tryd.f14.body.getD .skip
theorem b14 : Tryd.f14.body = some c14 := body_some (by kernel_rfl)
theorem n14 : (Tryd.f14.name == "runtime.NumGoroutine") = false := by kernel_rfl
def sg14 : List (FuncId × Sig) := []
def lt14 : List (Nat × LoopSig) := []
theorem k14 : (Code.loops c14).length = 0 := by kernel_rfl
def vt14 : VT :=
 (.need Tt (.c (.bin .lt (.n 1) (.un .len Q7)))
 (.need Tt (.c (.bin .lt (.n 2) (.un .len Q6)))
 (.ret (.cons (.str ⟨#[103]⟩) (.cons Tt (.cons (.upd 0 Q6 (.n 2) (.cons (.str ⟨#[99]⟩) .nil)) (.cons (.lcons (.cons N0 (.cons (.n 1) Q56)) (.lcons (.cons N0 (.cons (.n 2) Q56)) .lnil)) (.cons .lnil .nil))))))))
theorem e14 : (fnVT Tryd.prog (sgOf sg14) (ltOf lt14) S14 Tryd.f14 c14).slim (S14.ps.map fun p => p.2.length).sum [] = vt14 := by kernel_rfl
def S61 : Sig := ⟨[(false, [(.int .u8)])], [(false, [.bool])], [], none⟩
noncomputable def c61 : Code := Tryd.f61.body.getD .skip
theorem b61 : Tryd.f61.body = some c61 := body_some (by kernel_rfl)
theorem n61 : (Tryd.f61.name == "runtime.NumGoroutine") = false := by kernel_rfl
def sg61 : List (FuncId × Sig) := []
def lt61 : List (Nat × LoopSig) := []
theorem k61 : (Code.loops c61).length = 0 := by kernel_rfl
def vt61 : VT :=
 (.ret Q16)
theorem e61 : (fnVT Tryd.prog (sgOf sg61) (ltOf lt61) S61 Tryd.f61 c61).slim (S61.ps.map fun p => p.2.length).sum [] = vt61 := by kernel_rfl
def T61 : FuncId → List D → List D := tabOf []
def fn61 (ρ : List D) : List D := vt61.val T61 ρ
theorem m61 : Meets Tryd.prog 61 S61 (fun _ => True) fn61 := meets_easy (sgl := sg61) (Φ := T61) mixed ((fun _ h => nomatch h)) Tryd.func61 b61 n61 k61 e61 (by kernel_rfl)
def S62 : Sig := ⟨[(false, [(.int .u8)])], [(false, [.bool])], [], none⟩
noncomputable def c62 : Code := Tryd.f62.body.getD .skip
theorem b62 : Tryd.f62.body = some c62 := body_some (by kernel_rfl)
theorem n62 : (Tryd.f62.name == "runtime.NumGoroutine") = false := by kernel_rfl
def sg62 : List (FuncId × Sig) := []
def lt62 : List (Nat × LoopSig) := []
theorem k62 : (Code.loops c62).length = 0 := by kernel_rfl
def vt62 : VT :=
 (.ret Q83)
theorem e62 : (fnVT Tryd.prog (sgOf sg62) (ltOf lt62) S62 Tryd.f62 c62).slim (S62.ps.map fun p => p.2.length).sum [] = vt62 := by kernel_rfl
def T62 : FuncId → List D → List D := tabOf []
def fn62 (ρ : List D) : List D := vt62.val T62 ρ
theorem m62 : Meets Tryd.prog 62 S62 (fun _ => True) fn62 := meets_easy (sgl := sg62) (Φ := T62) mixed ((fun _ h => nomatch h)) Tryd.func62 b62 n62 k62 e62 (by kernel_rfl)
def S43 : Sig := ⟨[(false, [.str])], [(false, [i6])], [], none⟩
noncomputable def c43 : Code := Tryd.f43.body.getD .skip
theorem b43 : Tryd.f43.body = some c43 := body_some (by kernel_rfl)
theorem n43 : (Tryd.f43.name == "runtime.NumGoroutine") = false := by kernel_rfl
def sg43 : List (FuncId × Sig) := [(61, S61), (62, S62)]
def L43_0 : LoopSig := ⟨14300, [],
  ⟨[(.c (.x .str V0)), .any, .any, (.c (.x i6 V1)), ] ++ an 22 ++ [.any],
  []⟩,
  2, [1], (rg 4 22 ++ [3]), [(.exit 0)], []⟩
def lt43 : List (Nat × LoopSig) := [(2, L43_0)]
theorem k43 : (Code.loops c43).length = 1 := by kernel_rfl
noncomputable def lb43_0 : Code := (Code.loops c43).getD 0 .skip
def rt43_0 : VT :=
 (.need Q234 (.c (.bin .le N0 V1))
 (.need Q234 (.c Q234)
 (.need Q234 (.pre 61 Q227)
 (.lt (.app 61 Q227 0) 1
 (.need (.ite (.ite Q234 (.un .not V2) (.t false)) (.bin .lt N0 V1) (.t false)) (.c (.bin .le N0 V1))
 (.need (.ite (.ite Q234 (.un .not V2) (.t false)) (.bin .lt N0 V1) (.t false)) (.c Q234)
 (.need (.ite (.ite Q234 (.un .not V2) (.t false)) (.bin .lt N0 V1) (.t false)) (.pre 62 Q227)
 (.lt (.app 62 Q227 0) 1
 (.ite (.ite Q234 (.ite V2 Tt (.ite (.bin .lt N0 V1) V3 (.t false))) (.t false))
 (.ret Q114)
 (.ret (.cons N0 (.cons V1 .nil))))))))))))
theorem le43_0 : (loopVT Tryd.prog (sgOf sg43) (ltOf lt43) L43_0 lb43_0).slim L43_0.nv [] = rt43_0 := by kernel_rfl
theorem lf43_0 : (firstRegion lb43_0).bind (ltOf lt43) = some L43_0 := by kernel_rfl
theorem lk43_0 : (Code.loops lb43_0).length = 0 := by kernel_rfl
def vt43 : VT :=
 (.need Tt (.pre 14300 Q262)
 (.lt (.app 14300 Q262 0) 2
 (.ret (.cons V2 .nil))))
theorem e43 : (fnVT Tryd.prog (sgOf sg43) (ltOf lt43) S43 Tryd.f43 c43).slim (S43.ps.map fun p => p.2.length).sum [] = vt43 := by kernel_rfl
def S44 : Sig := ⟨[(false, [.str])], [(false, [.bool])], [], none⟩
noncomputable def c44 : Code := Tryd.f44.body.getD .skip
theorem b44 : Tryd.f44.body = some c44 := body_some (by kernel_rfl)
theorem n44 : (Tryd.f44.name == "runtime.NumGoroutine") = false := by kernel_rfl
def sg44 : List (FuncId × Sig) := []
def lt44 : List (Nat × LoopSig) := []
theorem k44 : (Code.loops c44).length = 0 := by kernel_rfl
def vt44 : VT :=
 (.ite Q115
 (.ret (.cons Tt .nil))
 (.ite Q137
 (.ret (.cons Tt .nil))
 (.ite Q146
 (.ret (.cons Tt .nil))
 (.ite Q147
 (.ret (.cons Tt .nil))
 (.ite Q169
 (.ret (.cons Tt .nil))
 (.ite Q116
 (.ret (.cons Tt .nil))
 (.ret (.cons (.t false) .nil))))))))
theorem e44 : (fnVT Tryd.prog (sgOf sg44) (ltOf lt44) S44 Tryd.f44 c44).slim (S44.ps.map fun p => p.2.length).sum [] = vt44 := by kernel_rfl
def T44 : FuncId → List D → List D := tabOf []
def fn44 (ρ : List D) : List D := vt44.val T44 ρ
theorem m44 : Meets Tryd.prog 44 S44 (fun _ => True) fn44 := meets_easy (sgl := sg44) (Φ := T44) mixed ((fun _ h => nomatch h)) Tryd.func44 b44 n44 k44 e44 (by kernel_rfl)
def S29 : Sig := ⟨[(false, [.str])], [(false, [.bool])], [], none⟩
noncomputable def c29 : Code := Tryd.f29.body.getD .skip
theorem b29 : Tryd.f29.body = some c29 := body_some (by kernel_rfl)
theorem n29 : (Tryd.f29.name == "runtime.NumGoroutine") = false := by kernel_rfl
def sg29 : List (FuncId × Sig) := [(43, S43), (44, S44)]
def lt29 : List (Nat × LoopSig) := []
theorem k29 : (Code.loops c29).length = 0 := by kernel_rfl
def vt29 : VT :=
 (.need (.ite Q184 Q217 (.t false)) (.pre 43 (.cons V0 .nil))
 (.lt (.app 43 (.cons V0 .nil) 0) 1
 (.need (.ite (.ite Q184 Q217 (.t false)) Q235 (.t false)) (.pre 44 (.cons V0 .nil))
 (.lt (.app 44 (.cons V0 .nil) 0) 1
 (.ret (.cons (.ite (.ite (.ite Q184 Q217 (.t false)) Q235 (.t false)) (.un .not V2) (.t false)) .nil))))))
theorem e29 : (fnVT Tryd.prog (sgOf sg29) (ltOf lt29) S29 Tryd.f29 c29).slim (S29.ps.map fun p => p.2.length).sum [] = vt29 := by kernel_rfl
def S64 : Sig := ⟨[(true, [.str, .str, i6, i6, i6, Ty3]), (false, [(.pt [.str])])], [(false, [.bool])], [], none⟩
noncomputable def c64 : Code := Tryd.f64.body.getD .skip
theorem b64 : Tryd.f64.body = some c64 := body_some (by kernel_rfl)
theorem n64 : (Tryd.f64.name == "runtime.NumGoroutine") = false := by kernel_rfl
def sg64 : List (FuncId × Sig) := []
def lt64 : List (Nat × LoopSig) := []
theorem k64 : (Code.loops c64).length = 0 := by kernel_rfl
def vt64 : VT :=
 (.ret (.cons (.bin .seq V0 (.psel 0 V6)) .nil))
theorem e64 : (fnVT Tryd.prog (sgOf sg64) (ltOf lt64) S64 Tryd.f64 c64).slim (S64.ps.map fun p => p.2.length).sum [] = vt64 := by kernel_rfl
def T64 : FuncId → List D → List D := tabOf []
def fn64 (ρ : List D) : List D := vt64.val T64 ρ
theorem m64 : Meets Tryd.prog 64 S64 (fun _ => True) fn64 := meets_easy (sgl := sg64) (Φ := T64) mixed ((fun _ h => nomatch h)) Tryd.func64 b64 n64 k64 e64 (by kernel_rfl)
def S63 : Sig := ⟨[(false, [Ty0]), (false, [.clo])], [(false, [i6])], [], none⟩
noncomputable def c63 : Code := Tryd.f63.body.getD .skip
theorem b63 : Tryd.f63.body = some c63 := body_some (by kernel_rfl)
theorem n63 : (Tryd.f63.name == "runtime.NumGoroutine") = false := by kernel_rfl
def sg63 : List (FuncId × Sig) := [(20047, S20047)]
def L63_0 : LoopSig := ⟨16300, [],
  ⟨[(.c (.x Ty0 V0)), (.c (.x .clo V1)), .any, .any, (.c (.x i6 V2)), .any, .any, (.c (.x i6 V3)), (.c (.x i6 V4)), ] ++ an 9 ++ [.any],
  []⟩,
  5, [2, 4], ([9, 10, 5] ++ rg 11 7 ++ [4, 18, 8]), [.ret, (.exit 0)], []⟩
def lt63 : List (Nat × LoopSig) := [(2, L63_0)]
theorem k63 : (Code.loops c63).length = 1 := by kernel_rfl
noncomputable def lb63_0 : Code := (Code.loops c63).getD 0 .skip
def rt63_0 : VT :=
 (.ite (.bin .lt V4 V3)
 (.need Tt (.c (.bin .le N0 V4))
 (.need Tt (.c Q253)
 (.need Tt (.pre 20047 Q20)
 (.lt (.app 20047 Q20 0) 1
 (.ite V5
 (.ret Q194)
 (.ret Q92))))))
 (.ret Q165))
theorem le63_0 : (loopVT Tryd.prog (sgOf sg63) (ltOf lt63) L63_0 lb63_0).slim L63_0.nv [] = rt63_0 := by kernel_rfl
theorem lf63_0 : (firstRegion lb63_0).bind (ltOf lt63) = some L63_0 := by kernel_rfl
theorem lk63_0 : (Code.loops lb63_0).length = 0 := by kernel_rfl
def vt63 : VT :=
 (.need Tt (.pre 16300 Q93)
 (.lt (.app 16300 Q93 0) 3
 (.ite (.bin .eq V2 N0)
 (.ret (.cons V3 .nil))
 (.ret (.cons (.n (-1)) .nil)))))
theorem e63 : (fnVT Tryd.prog (sgOf sg63) (ltOf lt63) S63 Tryd.f63 c63).slim (S63.ps.map fun p => p.2.length).sum [] = vt63 := by kernel_rfl
def S45 : Sig := ⟨[(true, [.str, .bool, Ty0, Ty1, Ty4]), (false, [.str])], [(false, [i6])], [], none⟩
noncomputable def c45 : Code := Tryd.f45.body.getD .skip
theorem b45 : Tryd.f45.body = some c45 := body_some (by kernel_rfl)
theorem n45 : (Tryd.f45.name == "runtime.NumGoroutine") = false := by kernel_rfl
def sg45 : List (FuncId × Sig) := [(63, S63)]
def lt45 : List (Nat × LoopSig) := []
theorem k45 : (Code.loops c45).length = 0 := by kernel_rfl
def vt45 : VT :=
 (.need Tt (.pre 63 Q64)
 (.lt (.app 63 Q64 0) 1
 (.ret (.cons V6 .nil))))
theorem e45 : (fnVT Tryd.prog (sgOf sg45) (ltOf lt45) S45 Tryd.f45 c45).slim (S45.ps.map fun p => p.2.length).sum [] = vt45 := by kernel_rfl
def S46 : Sig := ⟨[(false, [.str])], [(false, [i6])], [], none⟩
noncomputable def c46 : Code := Tryd.f46.body.getD .skip
theorem b46 : Tryd.f46.body = some c46 := body_some (by kernel_rfl)
theorem n46 : (Tryd.f46.name == "runtime.NumGoroutine") = false := by kernel_rfl
def sg46 : List (FuncId × Sig) := []
def L46_0 : LoopSig := ⟨14600, [],
  ⟨[.any, .any, (.c (.x i6 V0)), ] ++ an 6 ++ [(.c (.x (.sl 5 [(.int .u8)]) V1)), (.c (.x i6 V2)), (.c (.x i6 V3)), ] ++ an 9 ++ [.any],
  []⟩,
  4, [0, 3], ([12, 13, 14, 4] ++ rg 15 6 ++ [2, 21, 11]), [.ret, (.exit 0)], []⟩
def lt46 : List (Nat × LoopSig) := [(4, L46_0)]
theorem k46 : (Code.loops c46).length = 1 := by kernel_rfl
noncomputable def lb46_0 : Code := (Code.loops c46).getD 0 .skip
def rt46_0 : VT :=
 (.ite (.bin .lt V3 V2)
 (.need Tt (.c (.bin .le N0 V3))
 (.need Tt (.c Q254)
 (.ite (.ite (.bin .lt (.sel 0 V1 V3) (.n 32)) Tt (.bin .lt (.n 126) (.sel 0 V1 V3)))
 (.ret (.cons N0 (.cons (.n 7) (.cons V3 .nil))))
 (.ret Q94))))
 (.ret Q166))
theorem le46_0 : (loopVT Tryd.prog (sgOf sg46) (ltOf lt46) L46_0 lb46_0).slim L46_0.nv [] = rt46_0 := by kernel_rfl
theorem lf46_0 : (firstRegion lb46_0).bind (ltOf lt46) = some L46_0 := by kernel_rfl
theorem lk46_0 : (Code.loops lb46_0).length = 0 := by kernel_rfl
def vt46 : VT :=
 (.ite (.bin .lt (.n 32) (.un .slen V0))
 (.ret (.cons (.n 2) .nil))
 (.need Tt (.pre 14600 Q61)
 (.lt (.app 14600 Q61 0) 3
 (.ite (.bin .eq V1 N0)
 (.ret (.cons V2 .nil))
 (.ret (.cons N0 .nil))))))
theorem e46 : (fnVT Tryd.prog (sgOf sg46) (ltOf lt46) S46 Tryd.f46 c46).slim (S46.ps.map fun p => p.2.length).sum [] = vt46 := by kernel_rfl
def S47 : Sig := ⟨[(false, [i6])], [(false, [.bool])], [], none⟩
noncomputable def c47 : Code := Tryd.f47.body.getD .skip
theorem b47 : Tryd.f47.body = some c47 := body_some (by kernel_rfl)
theorem n47 : (Tryd.f47.name == "runtime.NumGoroutine") = false := by kernel_rfl
def sg47 : List (FuncId × Sig) := []
def lt47 : List (Nat × LoopSig) := []
theorem k47 : (Code.loops c47).length = 0 := by kernel_rfl
def vt47 : VT :=
 (.ret (.cons (.ite (.bin .le (.n 1) V0) (.bin .le V0 (.n 1048576)) (.t false)) .nil))
theorem e47 : (fnVT Tryd.prog (sgOf sg47) (ltOf lt47) S47 Tryd.f47 c47).slim (S47.ps.map fun p => p.2.length).sum [] = vt47 := by kernel_rfl
def T47 : FuncId → List D → List D := tabOf []
def fn47 (ρ : List D) : List D := vt47.val T47 ρ
theorem m47 : Meets Tryd.prog 47 S47 (fun _ => True) fn47 := meets_easy (sgl := sg47) (Φ := T47) mixed ((fun _ h => nomatch h)) Tryd.func47 b47 n47 k47 e47 (by kernel_rfl)
def S66 : Sig := ⟨[(true, [.str, i6]), (false, [(.pt [.str, i6])])], [(false, [.bool])], [], none⟩
noncomputable def c66 : Code := Tryd.f66.body.getD .skip
theorem b66 : Tryd.f66.body = some c66 := body_some (by kernel_rfl)
theorem n66 : (Tryd.f66.name == "runtime.NumGoroutine") = false := by kernel_rfl
def sg66 : List (FuncId × Sig) := []
def lt66 : List (Nat × LoopSig) := []
theorem k66 : (Code.loops c66).length = 0 := by kernel_rfl
def vt66 : VT :=
 (.ret Q170)
theorem e66 : (fnVT Tryd.prog (sgOf sg66) (ltOf lt66) S66 Tryd.f66 c66).slim (S66.ps.map fun p => p.2.length).sum [] = vt66 := by kernel_rfl
def T66 : FuncId → List D → List D := tabOf []
def fn66 (ρ : List D) : List D := vt66.val T66 ρ
theorem m66 : Meets Tryd.prog 66 S66 (fun _ => True) fn66 := meets_easy (sgl := sg66) (Φ := T66) mixed ((fun _ h => nomatch h)) Tryd.func66 b66 n66 k66 e66 (by kernel_rfl)
def S79 : Sig := ⟨[(false, [Ty3]), (false, [.clo])], [(false, [i6])], [], none⟩
noncomputable def c79 : Code := Tryd.f79.body.getD .skip
theorem b79 : Tryd.f79.body = some c79 := body_some (by kernel_rfl)
theorem n79 : (Tryd.f79.name == "runtime.NumGoroutine") = false := by kernel_rfl
def sg79 : List (FuncId × Sig) := [(20049, S20049)]
def L79_0 : LoopSig := ⟨17900, [],
  ⟨[(.c (.x Ty3 V0)), (.c (.x .clo V1)), .any, .any, (.c (.x i6 V2)), .any, .any, (.c (.x i6 V3)), (.c (.x i6 V4)), ] ++ an 9 ++ [.any],
  []⟩,
  5, [2, 4], ([9, 10, 5] ++ rg 11 7 ++ [4, 18, 8]), [.ret, (.exit 0)], []⟩
def lt79 : List (Nat × LoopSig) := [(2, L79_0)]
theorem k79 : (Code.loops c79).length = 1 := by kernel_rfl
noncomputable def lb79_0 : Code := (Code.loops c79).getD 0 .skip
def rt79_0 : VT :=
 (.ite (.bin .lt V4 V3)
 (.need Tt (.c (.bin .le N0 V4))
 (.need Tt (.c Q253)
 (.need Tt (.pre 20049 Q111)
 (.lt (.app 20049 Q111 0) 1
 (.ite V5
 (.ret Q194)
 (.ret Q92))))))
 (.ret Q165))
theorem le79_0 : (loopVT Tryd.prog (sgOf sg79) (ltOf lt79) L79_0 lb79_0).slim L79_0.nv [] = rt79_0 := by kernel_rfl
theorem lf79_0 : (firstRegion lb79_0).bind (ltOf lt79) = some L79_0 := by kernel_rfl
theorem lk79_0 : (Code.loops lb79_0).length = 0 := by kernel_rfl
def vt79 : VT :=
 (.need Tt (.pre 17900 Q93)
 (.lt (.app 17900 Q93 0) 3
 (.ite (.bin .eq V2 N0)
 (.ret (.cons V3 .nil))
 (.ret (.cons (.n (-1)) .nil)))))
theorem e79 : (fnVT Tryd.prog (sgOf sg79) (ltOf lt79) S79 Tryd.f79 c79).slim (S79.ps.map fun p => p.2.length).sum [] = vt79 := by kernel_rfl
def S65 : Sig := ⟨[(false, [Ty3]), (false, [.clo])], [(false, [.bool])], [], none⟩
noncomputable def c65 : Code := Tryd.f65.body.getD .skip
theorem b65 : Tryd.f65.body = some c65 := body_some (by kernel_rfl)
theorem n65 : (Tryd.f65.name == "runtime.NumGoroutine") = false := by kernel_rfl
def sg65 : List (FuncId × Sig) := [(79, S79)]
def lt65 : List (Nat × LoopSig) := []
theorem k65 : (Code.loops c65).length = 0 := by kernel_rfl
def vt65 : VT :=
 (.need Tt (.pre 79 Q261)
 (.lt (.app 79 Q261 0) 1
 (.ret Q231)))
theorem e65 : (fnVT Tryd.prog (sgOf sg65) (ltOf lt65) S65 Tryd.f65 c65).slim (S65.ps.map fun p => p.2.length).sum [] = vt65 := by kernel_rfl
def S48 : Sig := ⟨[(false, [Ty3])], [(false, [i6])], [], none⟩
noncomputable def c48 : Code := Tryd.f48.body.getD .skip
theorem b48 : Tryd.f48.body = some c48 := body_some (by kernel_rfl)
theorem n48 : (Tryd.f48.name == "runtime.NumGoroutine") = false := by kernel_rfl
def sg48 : List (FuncId × Sig) := [(29, S29), (65, S65)]
def L48_0 : LoopSig := ⟨14800, [],
  ⟨[(.c (.x Ty3 V0)), .any, (.c (.x i6 V1)), .any, .any, .any, .any, .any, (.c (.x Ty3 V2)), (.c (.x i6 V3)), (.c (.x i6 V4)), ] ++ an 24 ++ [.any],
  []⟩,
  5, [1, 4], ([11, 12, 13, 14, 4, 3, 16, 17, 18, 19, 15, 2, 21, 22, 23, 24, 25, 20] ++ rg 27 8 ++ [26, 35, 10]), [.ret, (.exit 0)], []⟩
def lt48 : List (Nat × LoopSig) := [(4, L48_0)]
theorem k48 : (Code.loops c48).length = 1 := by kernel_rfl
noncomputable def lb48_0 : Code := (Code.loops c48).getD 0 .skip
def rt48_0 : VT :=
 (.ite (.bin .lt V4 V3)
 (.need Tt (.c (.bin .le N0 V4))
 (.need Tt (.c (.bin .lt V4 (.un .len V2)))
 (.need Tt (.pre 29 (.cons (.sel 0 V2 V4) .nil))
 (.lt (.app 29 (.cons (.sel 0 V2 V4) .nil) 0) 1
 (.ite (.un .not V5)
 (.ret (.cons N0 (.cons (.n 5) (.cons V4 .nil))))
 (.need Tt (.c (.bin .le V4 (.un .len V0)))
 (.need Tt (.pre 65 Q26)
 (.lt (.app 65 Q26 0) 1
 (.ite V6
 (.ret (.cons N0 (.cons (.n 6) (.cons V4 .nil))))
 (.ite (.ite (.bin .lt (.sel 1 V2 V4) N0) Tt (.bin .lt (.n 3) (.sel 1 V2 V4)))
 (.ret (.cons N0 (.cons (.n 7) (.cons V4 .nil))))
 (.ret (.cons (.n (-1)) (.cons V1 Q164)))))))))))))
 (.ret (.cons (.n 1) Q267)))
theorem le48_0 : (loopVT Tryd.prog (sgOf sg48) (ltOf lt48) L48_0 lb48_0).slim L48_0.nv [] = rt48_0 := by kernel_rfl
theorem lf48_0 : (firstRegion lb48_0).bind (ltOf lt48) = some L48_0 := by kernel_rfl
theorem lk48_0 : (Code.loops lb48_0).length = 0 := by kernel_rfl
def vt48 : VT :=
 (.ite (.bin .lt (.n 8) (.un .len V0))
 (.ret (.cons (.n 2) .nil))
 (.need Tt (.pre 14800 Q95)
 (.lt (.app 14800 Q95 0) 3
 (.ite (.bin .eq V1 N0)
 (.ret (.cons V2 .nil))
 (.ret (.cons N0 .nil))))))
theorem e48 : (fnVT Tryd.prog (sgOf sg48) (ltOf lt48) S48 Tryd.f48 c48).slim (S48.ps.map fun p => p.2.length).sum [] = vt48 := by kernel_rfl
def S30 : Sig := ⟨[(true, [.str, .bool, Ty0, Ty1, Ty4]), (false, [i6])], [(false, [i6])], [], none⟩
noncomputable def c30 : Code := Tryd.f30.body.getD .skip
theorem b30 : Tryd.f30.body = some c30 := body_some (by kernel_rfl)
theorem n30 : (Tryd.f30.name == "runtime.NumGoroutine") = false := by kernel_rfl
def sg30 : List (FuncId × Sig) := [(29, S29), (45, S45), (46, S46), (47, S47), (48, S48)]
def lt30 : List (Nat × LoopSig) := []
theorem k30 : (Code.loops c30).length = 0 := by kernel_rfl
def vt30 : VT :=
 (.need Tt (.c (.bin .le N0 V5))
 (.need Tt (.c Q245)
 (.need Tt (.pre 29 Q248)
 (.lt (.app 29 Q248 0) 1
 (.ite (.un .not V6)
 (.ret (.cons (.n 5) .nil))
 (.need Tt (.pre 45 Q66)
 (.lt (.app 45 Q66 0) 1
 (.ite (.bin .lt V7 V5)
 (.ret (.cons (.n 6) .nil))
 (.need Tt (.pre 46 Q249)
 (.lt (.app 46 Q249 0) 1
 (.ite Q255
 (.ret (.cons V8 .nil))
 (.need Tt (.pre 47 (.cons (.sel 2 V2 V5) .nil))
 (.lt (.app 47 (.cons (.sel 2 V2 V5) .nil) 0) 1
 (.need V9 (.pre 47 (.cons (.sel 3 V2 V5) .nil))
 (.lt (.app 47 (.cons (.sel 3 V2 V5) .nil) 0) 1
 (.ite (.ite (.ite (.ite (.un .not V9) Tt (.un .not V10)) Tt Q212) Tt Q176)
 (.ret (.cons (.n 3) .nil))
 (.need Tt (.pre 48 Q250)
 (.lt (.app 48 Q250 0) 1
 (.ret (.cons V11 .nil))))))))))))))))))))
theorem e30 : (fnVT Tryd.prog (sgOf sg30) (ltOf lt30) S30 Tryd.f30 c30).slim (S30.ps.map fun p => p.2.length).sum [] = vt30 := by kernel_rfl
def S50 : Sig := ⟨[(true, [.str, i6]), (false, [(.pt [.str, i6])])], [(false, [.bool])], [], none⟩
noncomputable def c50 : Code := Tryd.f50.body.getD .skip
theorem b50 : Tryd.f50.body = some c50 := body_some (by kernel_rfl)
theorem n50 : (Tryd.f50.name == "runtime.NumGoroutine") = false := by kernel_rfl
def sg50 : List (FuncId × Sig) := []
def lt50 : List (Nat × LoopSig) := []
theorem k50 : (Code.loops c50).length = 0 := by kernel_rfl
def vt50 : VT :=
 (.ret Q170)
theorem e50 : (fnVT Tryd.prog (sgOf sg50) (ltOf lt50) S50 Tryd.f50 c50).slim (S50.ps.map fun p => p.2.length).sum [] = vt50 := by kernel_rfl
def T50 : FuncId → List D → List D := tabOf []
def fn50 (ρ : List D) : List D := vt50.val T50 ρ
theorem m50 : Meets Tryd.prog 50 S50 (fun _ => True) fn50 := meets_easy (sgl := sg50) (Φ := T50) mixed ((fun _ h => nomatch h)) Tryd.func50 b50 n50 k50 e50 (by kernel_rfl)
def S67 : Sig := ⟨[(false, [Ty4]), (false, [.clo])], [(false, [i6])], [], none⟩
noncomputable def c67 : Code := Tryd.f67.body.getD .skip
theorem b67 : Tryd.f67.body = some c67 := body_some (by kernel_rfl)
theorem n67 : (Tryd.f67.name == "runtime.NumGoroutine") = false := by kernel_rfl
def sg67 : List (FuncId × Sig) := [(20051, S20051)]
def L67_0 : LoopSig := ⟨16700, [],
  ⟨[(.c (.x Ty4 V0)), (.c (.x .clo V1)), .any, .any, (.c (.x i6 V2)), .any, .any, (.c (.x i6 V3)), (.c (.x i6 V4)), ] ++ an 9 ++ [.any],
  []⟩,
  5, [2, 4], ([9, 10, 5] ++ rg 11 7 ++ [4, 18, 8]), [.ret, (.exit 0)], []⟩
def lt67 : List (Nat × LoopSig) := [(2, L67_0)]
theorem k67 : (Code.loops c67).length = 1 := by kernel_rfl
noncomputable def lb67_0 : Code := (Code.loops c67).getD 0 .skip
def rt67_0 : VT :=
 (.ite (.bin .lt V4 V3)
 (.need Tt (.c (.bin .le N0 V4))
 (.need Tt (.c Q253)
 (.need Tt (.pre 20051 Q111)
 (.lt (.app 20051 Q111 0) 1
 (.ite V5
 (.ret Q194)
 (.ret Q92))))))
 (.ret Q165))
theorem le67_0 : (loopVT Tryd.prog (sgOf sg67) (ltOf lt67) L67_0 lb67_0).slim L67_0.nv [] = rt67_0 := by kernel_rfl
theorem lf67_0 : (firstRegion lb67_0).bind (ltOf lt67) = some L67_0 := by kernel_rfl
theorem lk67_0 : (Code.loops lb67_0).length = 0 := by kernel_rfl
def vt67 : VT :=
 (.need Tt (.pre 16700 Q93)
 (.lt (.app 16700 Q93 0) 3
 (.ite (.bin .eq V2 N0)
 (.ret (.cons V3 .nil))
 (.ret (.cons (.n (-1)) .nil)))))
theorem e67 : (fnVT Tryd.prog (sgOf sg67) (ltOf lt67) S67 Tryd.f67 c67).slim (S67.ps.map fun p => p.2.length).sum [] = vt67 := by kernel_rfl
def S49 : Sig := ⟨[(false, [Ty4]), (false, [.clo])], [(false, [.bool])], [], none⟩
noncomputable def c49 : Code := Tryd.f49.body.getD .skip
theorem b49 : Tryd.f49.body = some c49 := body_some (by kernel_rfl)
theorem n49 : (Tryd.f49.name == "runtime.NumGoroutine") = false := by kernel_rfl
def sg49 : List (FuncId × Sig) := [(67, S67)]
def lt49 : List (Nat × LoopSig) := []
theorem k49 : (Code.loops c49).length = 0 := by kernel_rfl
def vt49 : VT :=
 (.need Tt (.pre 67 Q261)
 (.lt (.app 67 Q261 0) 1
 (.ret Q231)))
theorem e49 : (fnVT Tryd.prog (sgOf sg49) (ltOf lt49) S49 Tryd.f49 c49).slim (S49.ps.map fun p => p.2.length).sum [] = vt49 := by kernel_rfl
def S68 : Sig := ⟨[(true, [.str, .bool, Ty0, Ty1, Ty4]), (false, [i6])], [(false, [Ty6])], [], none⟩
noncomputable def c68 : Code := Tryd.f68.body.getD .skip
theorem b68 : Tryd.f68.body = some c68 := body_some (by kernel_rfl)
theorem n68 : (Tryd.f68.name == "runtime.NumGoroutine") = false := by kernel_rfl
def sg68 : List (FuncId × Sig) := []
def L68_0 : LoopSig := ⟨16800, [(5, none, 3)],
  ⟨[.any, (.c (.x i6 V0)), (.c (.ptr 0 0)), .any, .any, (.c (.row 1 1)), ] ++ an 12 ++ [.any],
  [some ⟨Tt, (.box 26 [(.x .str V1), (.x .bool V2), (.x Ty0 V3), (.x Ty1 V4), (.x Ty4 V5)] false)⟩, some ⟨Tt, (.row 3 [i6] V6 1 false)⟩]⟩,
  7, [0, 6], (rg 6 6 ++ [5] ++ rg 12 6 ++ [1]), [(.exit 0)], [6]⟩
def lt68 : List (Nat × LoopSig) := [(2, L68_0)]
theorem k68 : (Code.loops c68).length = 1 := by kernel_rfl
noncomputable def lb68_0 : Code := (Code.loops c68).getD 0 .skip
def rt68_0 : VT :=
 (.ite (.bin .le N0 V0)
 (.need Tt (.c (.bin .le (.un .len Q149) (.n 17592186044416)))
 (.need Tt (.c (.bin .lt V0 (.un .len V5)))
 (.ret (.cons (.n (-1)) (.cons (.sel 1 V5 V0) (.cons Q149 .nil))))))
 (.ret (.cons N0 (.cons V0 (.cons V6 .nil)))))
theorem le68_0 : (loopVT Tryd.prog (sgOf sg68) (ltOf lt68) L68_0 lb68_0).slim L68_0.nv [] = rt68_0 := by kernel_rfl
theorem lf68_0 : (firstRegion lb68_0).bind (ltOf lt68) = some L68_0 := by kernel_rfl
theorem lk68_0 : (Code.loops lb68_0).length = 0 := by kernel_rfl
def vt68 : VT :=
 (.need Tt (.pre 16800 Q62)
 (.lt (.app 16800 Q62 0) 3
 (.ret (.cons V8 .nil))))
theorem e68 : (fnVT Tryd.prog (sgOf sg68) (ltOf lt68) S68 Tryd.f68 c68).slim (S68.ps.map fun p => p.2.length).sum [] = vt68 := by kernel_rfl
def S51 : Sig := ⟨[(true, [.str, .bool, Ty0, Ty1, Ty4]), (false, [i6])], [(false, [i6])], [], none⟩
noncomputable def c51 : Code := Tryd.f51.body.getD .skip
theorem b51 : Tryd.f51.body = some c51 := body_some (by kernel_rfl)
theorem n51 : (Tryd.f51.name == "runtime.NumGoroutine") = false := by kernel_rfl
def sg51 : List (FuncId × Sig) := [(68, S68)]
def lt51 : List (Nat × LoopSig) := []
theorem k51 : (Code.loops c51).length = 0 := by kernel_rfl
def vt51 : VT :=
 (.need Tt (.pre 68 Q90)
 (.lt (.app 68 Q90 0) 1
 (.ret (.cons (.un .len V6) .nil))))
theorem e51 : (fnVT Tryd.prog (sgOf sg51) (ltOf lt51) S51 Tryd.f51 c51).slim (S51.ps.map fun p => p.2.length).sum [] = vt51 := by kernel_rfl
def S31 : Sig := ⟨[(true, [.str, .bool, Ty0, Ty1, Ty4]), (false, [i6])], [(false, [i6])], [], none⟩
noncomputable def c31 : Code := Tryd.f31.body.getD .skip
theorem b31 : Tryd.f31.body = some c31 := body_some (by kernel_rfl)
theorem n31 : (Tryd.f31.name == "runtime.NumGoroutine") = false := by kernel_rfl
def sg31 : List (FuncId × Sig) := [(29, S29), (45, S45), (49, S49), (51, S51)]
def lt31 : List (Nat × LoopSig) := []
theorem k31 : (Code.loops c31).length = 0 := by kernel_rfl
def vt31 : VT :=
 (.need Tt (.c (.bin .le N0 V5))
 (.need Tt (.c (.bin .lt V5 (.un .len V4)))
 (.need Tt (.pre 29 Q251)
 (.lt (.app 29 Q251 0) 1
 (.ite (.un .not V6)
 (.ret (.cons (.n 5) .nil))
 (.need Tt (.pre 45 Q67)
 (.lt (.app 45 Q67 0) 1
 (.need (.un .not (.bin .le N0 V7)) (.c (.bin .le V5 (.un .len V4)))
 (.need (.un .not (.bin .le N0 V7)) (.pre 49 Q27)
 (.lt (.app 49 Q27 0) 1
 (.ite (.ite (.bin .le N0 V7) Tt V8)
 (.ret (.cons (.n 6) .nil))
 (.ite (.ite Q213 Tt (.bin .le V5 (.sel 1 V4 V5)))
 (.ret (.cons (.n 3) .nil))
 (.need Tt (.pre 51 Q90)
 (.lt (.app 51 Q90 0) 1
 (.ite (.bin .lt (.n 6) V9)
 (.ret (.cons (.n 2) .nil))
 (.ret (.cons N0 .nil)))))))))))))))))
theorem e31 : (fnVT Tryd.prog (sgOf sg31) (ltOf lt31) S31 Tryd.f31 c31).slim (S31.ps.map fun p => p.2.length).sum [] = vt31 := by kernel_rfl
def S32 : Sig := ⟨[(true, [.str, .bool, Ty0, Ty1, Ty4]), (true, [i6, i6, i6, i6, .str, i6, i6])], [(false, [i6])], [], none⟩
noncomputable def c32 : Code := Tryd.f32.body.getD .skip
theorem b32 : Tryd.f32.body = some c32 := body_some (by kernel_rfl)
theorem n32 : (Tryd.f32.name == "runtime.NumGoroutine") = false := by kernel_rfl
def sg32 : List (FuncId × Sig) := [(46, S46)]
def lt32 : List (Nat × LoopSig) := []
theorem k32 : (Code.loops c32).length = 0 := by kernel_rfl
def vt32 : VT :=
 (.need Q23 (.c (.bin .le N0 V5))
 (.need Q23 (.c Q245)
 (.need Q14 (.c (.bin .le N0 V6))
 (.need Q14 (.c (.bin .lt V6 (.un .len V2)))
 (.ite (.ite (.ite (.ite (.ite Q228 Tt Q158) Tt Q185) Tt Q177) Tt Q178)
 (.ret (.cons (.n 3) .nil))
 (.need Tt (.pre 46 (.cons V9 .nil))
 (.lt (.app 46 (.cons V9 .nil) 0) 1
 (.ite (.un .not (.bin .eq V12 N0))
 (.ret (.cons V12 .nil))
 (.ite (.ite (.ite (.ite (.bin .lt V10 (.n 1)) Tt (.bin .lt (.n 1000) V10)) Tt (.bin .lt V11 (.n 1))) Tt (.bin .lt (.n 64) V11))
 (.ret (.cons (.n 7) .nil))
 (.ret (.cons N0 .nil)))))))))))
theorem e32 : (fnVT Tryd.prog (sgOf sg32) (ltOf lt32) S32 Tryd.f32 c32).slim (S32.ps.map fun p => p.2.length).sum [] = vt32 := by kernel_rfl
def S17 : Sig := ⟨[(true, [.str, .bool, Ty0, Ty1, Ty4])], [(false, [i6])], [], none⟩
noncomputable def c17 : Code := Tryd.f17.body.getD .skip
theorem b17 : Tryd.f17.body = some c17 := body_some (by kernel_rfl)
theorem n17 : (Tryd.f17.name == "runtime.NumGoroutine") = false := by kernel_rfl
def sg17 : List (FuncId × Sig) := [(29, S29), (30, S30), (31, S31), (32, S32)]
def L17_0 : LoopSig := ⟨11700, [],
  ⟨[.any, (.c (.ptr 0 0)), (.c (.x i6 V0)), ] ++ an 29 ++ [(.c (.x i6 V1)), (.c (.x i6 V2)), ] ++ an 35 ++ [.any],
  [some ⟨Tt, (.box 26 [(.x .str V3), (.x .bool V4), (.x Ty0 V5), (.x Ty1 V6), (.x Ty4 V7)] false)⟩]⟩,
  8, [0, 2], [34, 35, 3, 36, 37, 38, 4, 39, 40, 41, 2, 42, 33], [.ret, (.exit 0)], []⟩
def L17_1 : LoopSig := ⟨11701, [],
  ⟨[.any, (.c (.ptr 0 0)), (.c (.x i6 V0)), ] ++ an 42 ++ [(.c (.x i6 V1)), (.c (.x i6 V2)), ] ++ an 22 ++ [.any],
  [some ⟨Tt, (.box 26 [(.x .str V3), (.x .bool V4), (.x Ty0 V5), (.x Ty1 V6), (.x Ty4 V7)] false)⟩]⟩,
  8, [0, 2], [47, 48, 5, 49, 50, 51, 6, 52, 53, 54, 2, 55, 46], [.ret, (.exit 2)], []⟩
def L17_2 : LoopSig := ⟨11702, [],
  ⟨[.any, (.c (.ptr 0 0)), (.c (.x i6 V0)), ] ++ an 54 ++ [(.c (.x Ty1 V1)), (.c (.x i6 V2)), (.c (.x i6 V3)), ] ++ an 9 ++ [.any],
  [some ⟨Tt, (.box 26 [(.x .str V4), (.x .bool V5), (.x Ty0 V6), (.x Ty1 V7), (.x Ty4 V8)] false)⟩]⟩,
  9, [0, 3], [60, 61, 62, 8, 63, 64, 65, 9, 66, 67, 68, 2, 69, 59], [.ret, (.exit 4)], []⟩
def lt17 : List (Nat × LoopSig) := [(6, L17_0), (13, L17_1), (20, L17_2)]
theorem k17 : (Code.loops c17).length = 3 := by kernel_rfl
noncomputable def lb17_0 : Code := (Code.loops c17).getD 0 .skip
noncomputable def lb17_1 : Code := (Code.loops c17).getD 1 .skip
noncomputable def lb17_2 : Code := (Code.loops c17).getD 2 .skip
def rt17_0 : VT :=
 (.ite (.bin .lt V2 V1)
 (.need Tt (.pre 30 Q96)
 (.lt (.app 30 Q96 0) 1
 (.ite Q255
 (.ret Q196)
 (.ret Q97))))
 (.ret Q167))
theorem le17_0 : (loopVT Tryd.prog (sgOf sg17) (ltOf lt17) L17_0 lb17_0).slim L17_0.nv [] = rt17_0 := by kernel_rfl
theorem lf17_0 : (firstRegion lb17_0).bind (ltOf lt17) = some L17_0 := by kernel_rfl
theorem lk17_0 : (Code.loops lb17_0).length = 0 := by kernel_rfl
def rt17_1 : VT :=
 (.ite (.bin .lt V2 V1)
 (.need Tt (.pre 31 Q96)
 (.lt (.app 31 Q96 0) 1
 (.ite Q255
 (.ret Q196)
 (.ret Q97))))
 (.ret Q167))
theorem le17_1 : (loopVT Tryd.prog (sgOf sg17) (ltOf lt17) L17_1 lb17_1).slim L17_1.nv [] = rt17_1 := by kernel_rfl
theorem lf17_1 : (firstRegion lb17_1).bind (ltOf lt17) = some L17_1 := by kernel_rfl
theorem lk17_1 : (Code.loops lb17_1).length = 0 := by kernel_rfl
def rt17_2 : VT :=
 (.ite (.bin .lt V3 V2)
 (.need Tt (.c (.bin .le N0 V3))
 (.need Tt (.c Q254)
 (.need Tt (.pre 32 Q10)
 (.lt (.app 32 Q10 0) 1
 (.ite (.un .not (.bin .eq V9 N0))
 (.ret (.cons N0 (.cons V9 (.cons V3 .nil))))
 (.ret Q94))))))
 (.ret Q166))
theorem le17_2 : (loopVT Tryd.prog (sgOf sg17) (ltOf lt17) L17_2 lb17_2).slim L17_2.nv [] = rt17_2 := by kernel_rfl
theorem lf17_2 : (firstRegion lb17_2).bind (ltOf lt17) = some L17_2 := by kernel_rfl
theorem lk17_2 : (Code.loops lb17_2).length = 0 := by kernel_rfl
def vt17 : VT :=
 (.ite (.ite (.ite Q224 Tt Q218) Tt Q225)
 (.ret (.cons (.n 2) .nil))
 (.need Tt (.pre 29 (.cons V0 .nil))
 (.lt (.app 29 (.cons V0 .nil) 0) 1
 (.ite (.un .not V5)
 (.ret (.cons (.n 5) .nil))
 (.need Tt (.pre 11700 Q44)
 (.lt (.app 11700 Q44 0) 3
 (.ite (.bin .eq V6 N0)
 (.ret (.cons V7 .nil))
 (.need Tt (.pre 11701 Q45)
 (.lt (.app 11701 Q45 0) 3
 (.ite (.bin .eq V9 N0)
 (.ret (.cons V10 .nil))
 (.need Tt (.pre 11702 Q35)
 (.lt (.app 11702 Q35 0) 3
 (.ite (.bin .eq V12 N0)
 (.ret (.cons V13 .nil))
 (.ret (.cons N0 .nil)))))))))))))))
theorem e17 : (fnVT Tryd.prog (sgOf sg17) (ltOf lt17) S17 Tryd.f17 c17).slim (S17.ps.map fun p => p.2.length).sum [] = vt17 := by kernel_rfl
def S34 : Sig := ⟨[(true, [.str, .bool, Ty0, Ty1, Ty4])], [(true, [i6, Ty5])], [], none⟩
noncomputable def c34 : Code := Tryd.f34.body.getD .skip
theorem b34 : Tryd.f34.body = some c34 := body_some (by kernel_rfl)
theorem n34 : (Tryd.f34.name == "runtime.NumGoroutine") = false := by kernel_rfl
def sg34 : List (FuncId × Sig) := []
def L34_0 : LoopSig := ⟨13400, [(1, some 1, 62), (2, some 1, 62)],
  ⟨[.any, .any, .any, (.c (.ptr 2 0)), ] ++ an 7 ++ [(.c (.x Ty1 V0)), (.c (.x i6 V1)), (.c (.x i6 V2)), ] ++ an 14 ++ [.any],
  [none, none, some ⟨Tt, (.box 58 [(.x i6 V3), (.row 4 1)] false)⟩, none, some ⟨Tt, (.row 62 [i6, i6] V4 1 false)⟩]⟩,
  5, [2, 4], ([14, 15, 16, 5] ++ rg 17 11 ++ [13]), [(.exit 0)], [4]⟩
def lt34 : List (Nat × LoopSig) := [(3, L34_0)]
theorem k34 : (Code.loops c34).length = 1 := by kernel_rfl
noncomputable def lb34_0 : Code := (Code.loops c34).getD 0 .skip
def rt34_0 : VT :=
 (.ite (.bin .lt V2 V1)
 (.need Tt (.c (.bin .le N0 V2))
 (.need Tt (.c Q246)
 (.need Tt (.c Q31)
 (.ret (.cons (.n (-1)) (.cons Q236 (.cons Q77 .nil)))))))
 (.ret (.cons N0 Q266)))
theorem le34_0 : (loopVT Tryd.prog (sgOf sg34) (ltOf lt34) L34_0 lb34_0).slim L34_0.nv [] = rt34_0 := by kernel_rfl
theorem lf34_0 : (firstRegion lb34_0).bind (ltOf lt34) = some L34_0 := by kernel_rfl
theorem lk34_0 : (Code.loops lb34_0).length = 0 := by kernel_rfl
def vt34 : VT :=
 (.need Tt (.pre 13400 Q63)
 (.lt (.app 13400 Q63 0) 3
 (.ret Q197)))
theorem e34 : (fnVT Tryd.prog (sgOf sg34) (ltOf lt34) S34 Tryd.f34 c34).slim (S34.ps.map fun p => p.2.length).sum [] = vt34 := by kernel_rfl
def S69 : Sig := ⟨[(true, [i6, Ty5])], [(false, [.bool])], [], none⟩
noncomputable def c69 : Code := Tryd.f69.body.getD .skip
theorem b69 : Tryd.f69.body = some c69 := body_some (by kernel_rfl)
theorem n69 : (Tryd.f69.name == "runtime.NumGoroutine") = false := by kernel_rfl
def sg69 : List (FuncId × Sig) := []
def L69_0 : LoopSig := ⟨16900, [],
  ⟨[.any, (.c (.ptr 0 0)), (.c (.x .bool V0)), ] ++ an 17 ++ [(.c (.x Ty5 V1)), (.c (.x i6 V2)), (.c (.x i6 V3)), ] ++ an 19 ++ [.any],
  [some ⟨Tt, (.box 58 [(.x i6 V4), (.x Ty5 V5)] false)⟩]⟩,
  6, [0, 3], ([23, 24, 25, 4] ++ rg 26 16 ++ [2, 42, 22]), [.ret, (.exit 0)], []⟩
def lt69 : List (Nat × LoopSig) := [(4, L69_0)]
theorem k69 : (Code.loops c69).length = 1 := by kernel_rfl
noncomputable def lb69_0 : Code := (Code.loops c69).getD 0 .skip
def rt69_0 : VT :=
 (.ite (.bin .lt V3 V2)
 (.need Tt (.c (.bin .le N0 V3))
 (.need Tt (.c Q254)
 (.ite (.ite Q128 Tt Q129)
 (.ret Q150)
 (.ret Q94))))
 (.ret Q166))
theorem le69_0 : (loopVT Tryd.prog (sgOf sg69) (ltOf lt69) L69_0 lb69_0).slim L69_0.nv [] = rt69_0 := by kernel_rfl
theorem lf69_0 : (firstRegion lb69_0).bind (ltOf lt69) = some L69_0 := by kernel_rfl
theorem lk69_0 : (Code.loops lb69_0).length = 0 := by kernel_rfl
def vt69 : VT :=
 (.ite (.ite (.ite (.bin .lt V0 N0) Tt (.bin .lt (.n 64) V0)) Tt Q219)
 (.ret (.cons (.t false) .nil))
 (.need Tt (.pre 16900 Q59)
 (.lt (.app 16900 Q59 0) 3
 (.ite (.bin .eq V2 N0)
 (.ret (.cons V3 .nil))
 (.ret (.cons Tt .nil))))))
theorem e69 : (fnVT Tryd.prog (sgOf sg69) (ltOf lt69) S69 Tryd.f69 c69).slim (S69.ps.map fun p => p.2.length).sum [] = vt69 := by kernel_rfl
def S88 : Sig := ⟨[(false, [(.int .u32)])], [(false, [i6])], [], none⟩
noncomputable def c88 : Code := Tryd.f88.body.getD .skip
theorem b88 : Tryd.f88.body = some c88 := body_some (by kernel_rfl)
theorem n88 : (Tryd.f88.name == "runtime.NumGoroutine") = false := by kernel_rfl
def S89 : Sig := ⟨[(false, [(.int .u64)])], [(false, [i6])], [], none⟩
noncomputable def c89 : Code := Tryd.f89.body.getD .skip
theorem b89 : Tryd.f89.body = some c89 := body_some (by kernel_rfl)
theorem n89 : (Tryd.f89.name == "runtime.NumGoroutine") = false := by kernel_rfl
def S80 : Sig := ⟨[(false, [(.int .u64)])], [(false, [i6])], [], none⟩
noncomputable def c80 : Code := Tryd.f80.body.getD .skip
theorem b80 : Tryd.f80.body = some c80 := body_some (by kernel_rfl)
theorem n80 : (Tryd.f80.name == "runtime.NumGoroutine") = false := by kernel_rfl
def sg80 : List (FuncId × Sig) := [(88, S88), (89, S89)]
def lt80 : List (Nat × LoopSig) := []
theorem k80 : (Code.loops c80).length = 0 := by kernel_rfl
def vt80 : VT :=
 (.need Tt (.pre 89 (.cons V0 .nil))
 (.lt (.app 89 (.cons V0 .nil) 0) 1
 (.ret (.cons V1 .nil))))
theorem e80 : (fnVT Tryd.prog (sgOf sg80) (ltOf lt80) S80 Tryd.f80 c80).slim (S80.ps.map fun p => p.2.length).sum [] = vt80 := by kernel_rfl
def S70 : Sig := ⟨[(false, [(.pn [i6, i6, i6, i6, i6, i6, i6, i6, i6, i6, i6, i6, i6, i6, i6, i6, i6, i6, i6, i6, i6, i6, i6, i6, i6, i6, i6, i6, i6, i6, i6, i6, i6, i6, i6, i6, i6, i6, i6, i6, i6, i6, i6, i6, i6, i6, i6, i6, i6, i6, i6, i6, i6, i6, i6, i6, i6, i6, i6, i6, i6, i6, i6, i6, i6, Ty6])])], [(false, [i6])], [], none⟩
noncomputable def c70 : Code := Tryd.f70.body.getD .skip
theorem b70 : Tryd.f70.body = some c70 := body_some (by kernel_rfl)
theorem n70 : (Tryd.f70.name == "runtime.NumGoroutine") = false := by kernel_rfl
def sg70 : List (FuncId × Sig) := [(80, S80)]
def L70_0 : LoopSig := ⟨17002, [],
  ⟨[(.c (.x (.pn [i6, i6, i6, i6, i6, i6, i6, i6, i6, i6, i6, i6, i6, i6, i6, i6, i6, i6, i6, i6, i6, i6, i6, i6, i6, i6, i6, i6, i6, i6, i6, i6, i6, i6, i6, i6, i6, i6, i6, i6, i6, i6, i6, i6, i6, i6, i6, i6, i6, i6, i6, i6, i6, i6, i6, i6, i6, i6, i6, i6, i6, i6, i6, i6, i6, Ty6]) V0)), .any, .any, (.c (.row 0 1)), (.c (.x i6 V1)), ] ++ an 83 ++ [.any],
  [some ⟨Tt, (.row 3 [i6] V2 1 false)⟩]⟩,
  3, [1, 2], ([15, 16, 17, 18] ++ rg 21 10 ++ [5] ++ rg 31 9 ++ [6] ++ rg 40 14 ++ [7, 54, 8, 55, 56] ++ rg 61 12 ++ [57, 58, 59, 60] ++ rg 73 10 ++ [19, 20, 4]), [(.exit 0)], []⟩
def L70_1 : LoopSig := ⟨17001, [],
  ⟨[(.c (.x (.pn [i6, i6, i6, i6, i6, i6, i6, i6, i6, i6, i6, i6, i6, i6, i6, i6, i6, i6, i6, i6, i6, i6, i6, i6, i6, i6, i6, i6, i6, i6, i6, i6, i6, i6, i6, i6, i6, i6, i6, i6, i6, i6, i6, i6, i6, i6, i6, i6, i6, i6, i6, i6, i6, i6, i6, i6, i6, i6, i6, i6, i6, i6, i6, i6, i6, Ty6]) V0)), .any, .any, (.c (.row 0 1)), (.c (.x i6 V1)), ] ++ an 22 ++ [(.c (.x i6 V2)), (.c (.x i6 V3)), ] ++ an 59 ++ [.any],
  [some ⟨Tt, (.row 3 [i6] V4 1 false)⟩]⟩,
  5, [3, 4], ([29, 30, 5] ++ rg 31 9 ++ [6] ++ rg 40 14 ++ [7, 54, 8, 55, 56] ++ rg 61 12 ++ [57, 58, 59, 60] ++ rg 73 10 ++ [28]), [(.exit 2)], []⟩
def L70_2 : LoopSig := ⟨17000, [],
  ⟨[(.c (.x (.pn [i6, i6, i6, i6, i6, i6, i6, i6, i6, i6, i6, i6, i6, i6, i6, i6, i6, i6, i6, i6, i6, i6, i6, i6, i6, i6, i6, i6, i6, i6, i6, i6, i6, i6, i6, i6, i6, i6, i6, i6, i6, i6, i6, i6, i6, i6, i6, i6, i6, i6, i6, i6, i6, i6, i6, i6, i6, i6, i6, i6, i6, i6, i6, i6, i6, Ty6]) V0)), .any, .any, .any, .any, (.c (.x i6 V1)), .any, (.c (.x i6 V2)), (.c (.x i6 V3)), ] ++ an 79 ++ [.any],
  []⟩,
  4, [2, 3], ([55, 56] ++ rg 61 12 ++ [7, 57, 58, 59, 60, 8]), [(.exit 4)], []⟩
def lt70 : List (Nat × LoopSig) := [(3, L70_0), (7, L70_1), (14, L70_2)]
theorem k70 : (Code.loops c70).length = 3 := by kernel_rfl
noncomputable def lb70_0 : Code := (Code.loops c70).getD 0 .skip
noncomputable def lb70_1 : Code := (Code.loops c70).getD 1 .skip
noncomputable def lb70_2 : Code := (Code.loops c70).getD 2 .skip
def rt70_0 : VT :=
 (.ite Q256
 (.need Tt (.c (.bin .le N0 V1))
 (.need Tt (.c (.un (.pnn 66) V0))
 (.need Tt (.pre 17001 Q40)
 (.lt (.app 17001 Q40 0) 3
 (.ret (.cons (.n (-1)) (.cons Q233 (.cons V5 .nil))))))))
 (.ret Q198))
theorem le70_0 : (loopVT Tryd.prog (sgOf sg70) (ltOf lt70) L70_0 lb70_0).slim L70_0.nv [] = rt70_0 := by kernel_rfl
theorem lf70_0 : (firstRegion lb70_0).bind (ltOf lt70) = some L70_0 := by kernel_rfl
theorem lk70_0 : (Code.loops lb70_0).length = 2 := by kernel_rfl
theorem li70_0_0 : (Code.loops lb70_0).getD 0 .skip = lb70_1 := by kernel_rfl
theorem li70_0_1 : (Code.loops lb70_0).getD 1 .skip = lb70_2 := by kernel_rfl
def rt70_1 : VT :=
 (.ite (.bin .lt V3 V2)
 (.need Tt (.c (.bin .le N0 V3))
 (.ite (.bin .eq (.bin (.and .i64) (.bin (.shr .i64) V1 V3) (.n 1)) N0)
 (.ret Q98)
 (.need Tt (.c (.un (.pnn 66) V0))
 (.need Tt (.c (.bin .lt V3 (.un .len (.psel 65 V0))))
 (.ite (.un .not (.bin .eq (.bin (.andn .i64) (.sel 0 (.psel 65 V0) V3) Q132) N0))
 (.ret Q98)
 (.need Tt (.c (.bin .le N0 Q132))
 (.need Tt (.c (.bin .lt Q132 (.un .len V4)))
 (.need Tt (.pre 17000 Q19)
 (.lt (.app 17000 Q19 0) 3
 (.need Tt (.c (.bin .le N0 V1))
 (.need Tt (.c Q243)
 (.ret (.cons (.n (-1)) (.cons Q237 (.cons (.upd 0 V4 V1 (.cons (.bin .min (.sel 0 V4 V1) V6) .nil)) .nil)))))))))))))))
 (.ret Q199))
theorem le70_1 : (loopVT Tryd.prog (sgOf sg70) (ltOf lt70) L70_1 lb70_1).slim L70_1.nv [] = rt70_1 := by kernel_rfl
theorem lf70_1 : (firstRegion lb70_1).bind (ltOf lt70) = some L70_1 := by kernel_rfl
theorem lk70_1 : (Code.loops lb70_1).length = 1 := by kernel_rfl
theorem li70_1_0 : (Code.loops lb70_1).getD 0 .skip = lb70_2 := by kernel_rfl
def rt70_2 : VT :=
 (.ite (.bin .lt N0 V3)
 (.need Tt (.pre 80 Q220)
 (.lt (.app 80 Q220 0) 1
 (.need Tt (.c (.un (.pnn 66) V0))
 (.need Tt (.c (.bin .le N0 V1))
 (.need Tt (.c (.bin .lt V1 (.n 8)))
 (.need Tt (.c (.bin .le N0 V4))
 (.need Tt (.c (.bin .lt V4 (.n 8)))
 (.ret (.cons (.n (-1)) (.cons (.bin (.add .i64) V2 (.nth (.cons (.psel 1 V0) (.cons (.psel 2 V0) (.cons (.psel 3 V0) (.cons (.psel 4 V0) (.cons (.psel 5 V0) (.cons (.psel 6 V0) (.cons (.psel 7 V0) (.cons (.psel 8 V0) (.cons (.psel 9 V0) (.cons (.psel 10 V0) (.cons (.psel 11 V0) (.cons (.psel 12 V0) (.cons (.psel 13 V0) (.cons (.psel 14 V0) (.cons (.psel 15 V0) (.cons (.psel 16 V0) (.cons (.psel 17 V0) (.cons (.psel 18 V0) (.cons (.psel 19 V0) (.cons (.psel 20 V0) (.cons (.psel 21 V0) (.cons (.psel 22 V0) (.cons (.psel 23 V0) (.cons (.psel 24 V0) (.cons (.psel 25 V0) (.cons (.psel 26 V0) (.cons (.psel 27 V0) (.cons (.psel 28 V0) (.cons (.psel 29 V0) (.cons (.psel 30 V0) (.cons (.psel 31 V0) (.cons (.psel 32 V0) (.cons (.psel 33 V0) (.cons (.psel 34 V0) (.cons (.psel 35 V0) (.cons (.psel 36 V0) (.cons (.psel 37 V0) (.cons (.psel 38 V0) (.cons (.psel 39 V0) (.cons (.psel 40 V0) (.cons (.psel 41 V0) (.cons (.psel 42 V0) (.cons (.psel 43 V0) (.cons (.psel 44 V0) (.cons (.psel 45 V0) (.cons (.psel 46 V0) (.cons (.psel 47 V0) (.cons (.psel 48 V0) (.cons (.psel 49 V0) (.cons (.psel 50 V0) (.cons (.psel 51 V0) (.cons (.psel 52 V0) (.cons (.psel 53 V0) (.cons (.psel 54 V0) (.cons (.psel 55 V0) (.cons (.psel 56 V0) (.cons (.psel 57 V0) (.cons (.psel 58 V0) (.cons (.psel 59 V0) (.cons (.psel 60 V0) (.cons (.psel 61 V0) (.cons (.psel 62 V0) (.cons (.psel 63 V0) (.cons (.psel 64 V0) .nil)))))))))))))))))))))))))))))))))))))))))))))))))))))))))))))))) (.bin (.add .i64) (.bin (.mul .i64) V1 (.n 8)) V4))) (.cons (.bin (.and .i64) V3 (.bin (.sub .i64) V3 (.n 1))) .nil)))))))))))
 (.ret Q200))
theorem le70_2 : (loopVT Tryd.prog (sgOf sg70) (ltOf lt70) L70_2 lb70_2).slim L70_2.nv [] = rt70_2 := by kernel_rfl
theorem lf70_2 : (firstRegion lb70_2).bind (ltOf lt70) = some L70_2 := by kernel_rfl
theorem lk70_2 : (Code.loops lb70_2).length = 0 := by kernel_rfl
def vt70 : VT :=
 (.need Tt (.c (.un (.pnn 66) V0))
 (.need Tt (.c Q269)
 (.need Tt (.c (.bin .le N0 Q186))
 (.need Tt (.c (.bin .le Q186 (.n 17592186044416)))
 (.need Tt (.pre 17002 Q47)
 (.lt (.app 17002 Q47 0) 3
 (.need Tt (.c (.bin .le N0 Q179))
 (.need Tt (.c (.bin .lt Q179 (.un .len V3)))
 (.ret (.cons (.sel 0 V3 Q179) .nil))))))))))
theorem e70 : (fnVT Tryd.prog (sgOf sg70) (ltOf lt70) S70 Tryd.f70 c70).slim (S70.ps.map fun p => p.2.length).sum [] = vt70 := by kernel_rfl
def S52 : Sig := ⟨[(true, [i6, Ty5])], [(false, [Ty6]), (false, [i6])], [], none⟩
noncomputable def c52 : Code := Tryd.f52.body.getD .skip
theorem b52 : Tryd.f52.body = some c52 := body_some (by kernel_rfl)
theorem n52 : (Tryd.f52.name == "runtime.NumGoroutine") = false := by kernel_rfl
def sg52 : List (FuncId × Sig) := [(69, S69), (70, S70)]
def L52_0 : LoopSig := ⟨15200, [],
  ⟨[.any, .any, .any, .any, (.c (.ptr 2 0)), ] ++ an 23 ++ [(.c (.x Ty5 V0)), (.c (.x i6 V1)), (.c (.x i6 V2)), ] ++ an 94 ++ [.any],
  [none, some ⟨Tt, (.row 3 [i6] V3 1 false)⟩, some ⟨Tt, (.box 111 [(.x i6 V4), (.x i6 V5), (.x i6 V6), (.x i6 V7), (.x i6 V8), (.x i6 V9), (.x i6 V10), (.x i6 V11), (.x i6 V12), (.x i6 V13), (.x i6 V14), (.x i6 V15), (.x i6 V16), (.x i6 V17), (.x i6 V18), (.x i6 V19), (.x i6 V20), (.x i6 V21), (.x i6 V22), (.x i6 V23), (.x i6 V24), (.x i6 V25), (.x i6 V26), (.x i6 V27), (.x i6 V28), (.x i6 V29), (.x i6 V30), (.x i6 V31), (.x i6 V32), (.x i6 V33), (.x i6 V34), (.x i6 V35), (.x i6 V36), (.x i6 V37), (.x i6 V38), (.x i6 V39), (.x i6 V40), (.x i6 V41), (.x i6 V42), (.x i6 V43), (.x i6 V44), (.x i6 V45), (.x i6 V46), (.x i6 V47), (.x i6 V48), (.x i6 V49), (.x i6 V50), (.x i6 V51), (.x i6 V52), (.x i6 V53), (.x i6 V54), (.x i6 V55), (.x i6 V56), (.x i6 V57), (.x i6 V58), (.x i6 V59), (.x i6 V60), (.x i6 V61), (.x i6 V62), (.x i6 V63), (.x i6 V64), (.x i6 V65), (.x i6 V66), (.x i6 V67), (.x i6 V68), (.row 1 1)] false)⟩]⟩,
  69, ([2] ++ rg 5 64), ([31, 32, 33, 6] ++ rg 34 21 ++ [30]), [(.exit 1)], []⟩
def L52_1 : LoopSig := ⟨15201, [(8, none, 3)],
  ⟨[.any, .any, .any, .any, (.c (.ptr 2 0)), .any, .any, (.c (.x i6 V0)), (.c (.row 3 1)), ] ++ an 49 ++ [(.c (.x Ty5 V1)), (.c (.x i6 V2)), (.c (.x i6 V3)), ] ++ an 64 ++ [.any],
  [none, some ⟨Tt, (.row 3 [i6] V4 1 false)⟩, some ⟨Tt, (.box 111 [(.x i6 V5), (.x i6 V6), (.x i6 V7), (.x i6 V8), (.x i6 V9), (.x i6 V10), (.x i6 V11), (.x i6 V12), (.x i6 V13), (.x i6 V14), (.x i6 V15), (.x i6 V16), (.x i6 V17), (.x i6 V18), (.x i6 V19), (.x i6 V20), (.x i6 V21), (.x i6 V22), (.x i6 V23), (.x i6 V24), (.x i6 V25), (.x i6 V26), (.x i6 V27), (.x i6 V28), (.x i6 V29), (.x i6 V30), (.x i6 V31), (.x i6 V32), (.x i6 V33), (.x i6 V34), (.x i6 V35), (.x i6 V36), (.x i6 V37), (.x i6 V38), (.x i6 V39), (.x i6 V40), (.x i6 V41), (.x i6 V42), (.x i6 V43), (.x i6 V44), (.x i6 V45), (.x i6 V46), (.x i6 V47), (.x i6 V48), (.x i6 V49), (.x i6 V50), (.x i6 V51), (.x i6 V52), (.x i6 V53), (.x i6 V54), (.x i6 V55), (.x i6 V56), (.x i6 V57), (.x i6 V58), (.x i6 V59), (.x i6 V60), (.x i6 V61), (.x i6 V62), (.x i6 V63), (.x i6 V64), (.x i6 V65), (.x i6 V66), (.x i6 V67), (.x i6 V68), (.x i6 V69), (.row 1 1)] false)⟩, some ⟨Tt, (.row 3 [i6] V70 1 false)⟩]⟩,
  71, [3, 4, 70], ([61, 62, 63, 64, 10, 9] ++ rg 65 9 ++ [11] ++ rg 74 33 ++ [8] ++ rg 107 18 ++ [60]), [(.exit 3)], [4, 70]⟩
def lt52 : List (Nat × LoopSig) := [(7, L52_0), (15, L52_1)]
theorem k52 : (Code.loops c52).length = 2 := by kernel_rfl
noncomputable def lb52_0 : Code := (Code.loops c52).getD 0 .skip
noncomputable def lb52_1 : Code := (Code.loops c52).getD 1 .skip
def rt52_0 : VT :=
 (.ite (.bin .lt V2 V1)
 (.need Tt (.c (.bin .le N0 V2))
 (.need Tt (.c Q246)
 (.ite Q133
 (.need Tt (.c Q238)
 (.need Tt (.c (.bin .lt (.sel 0 V0 V2) (.n 8)))
 (.need Tt (.c (.bin .le N0 (.sel 1 V0 V2)))
 (.need Tt (.c (.bin .lt (.sel 1 V0 V2) (.n 8)))
 (.ret (.cons (.n (-1)) (.cons Q236 (.cons (.ite (.bin .eq Q84 N0) Q2 V5) (.cons (.ite (.bin .eq Q84 (.n 1)) Q2 V6) (.cons (.ite (.bin .eq Q84 (.n 2)) Q2 V7) (.cons (.ite (.bin .eq Q84 (.n 3)) Q2 V8) (.cons (.ite (.bin .eq Q84 (.n 4)) Q2 V9) (.cons (.ite (.bin .eq Q84 (.n 5)) Q2 V10) (.cons (.ite (.bin .eq Q84 (.n 6)) Q2 V11) (.cons (.ite (.bin .eq Q84 (.n 7)) Q2 V12) (.cons (.ite (.bin .eq Q84 (.n 8)) Q2 V13) (.cons (.ite (.bin .eq Q84 (.n 9)) Q2 V14) (.cons (.ite (.bin .eq Q84 (.n 10)) Q2 V15) (.cons (.ite (.bin .eq Q84 (.n 11)) Q2 V16) (.cons (.ite (.bin .eq Q84 (.n 12)) Q2 V17) (.cons (.ite (.bin .eq Q84 (.n 13)) Q2 V18) (.cons (.ite (.bin .eq Q84 (.n 14)) Q2 V19) (.cons (.ite (.bin .eq Q84 (.n 15)) Q2 V20) (.cons (.ite (.bin .eq Q84 (.n 16)) Q2 V21) (.cons (.ite (.bin .eq Q84 (.n 17)) Q2 V22) (.cons (.ite (.bin .eq Q84 (.n 18)) Q2 V23) (.cons (.ite (.bin .eq Q84 (.n 19)) Q2 V24) (.cons (.ite (.bin .eq Q84 (.n 20)) Q2 V25) (.cons (.ite (.bin .eq Q84 (.n 21)) Q2 V26) (.cons (.ite (.bin .eq Q84 (.n 22)) Q2 V27) (.cons (.ite (.bin .eq Q84 (.n 23)) Q2 V28) (.cons (.ite (.bin .eq Q84 (.n 24)) Q2 V29) (.cons (.ite (.bin .eq Q84 (.n 25)) Q2 V30) (.cons (.ite (.bin .eq Q84 (.n 26)) Q2 V31) (.cons (.ite (.bin .eq Q84 (.n 27)) Q2 V32) (.cons (.ite (.bin .eq Q84 (.n 28)) Q2 V33) (.cons (.ite (.bin .eq Q84 (.n 29)) Q2 V34) (.cons (.ite (.bin .eq Q84 (.n 30)) Q2 V35) (.cons (.ite (.bin .eq Q84 (.n 31)) Q2 V36) (.cons (.ite (.bin .eq Q84 (.n 32)) Q2 V37) (.cons (.ite (.bin .eq Q84 (.n 33)) Q2 V38) (.cons (.ite (.bin .eq Q84 (.n 34)) Q2 V39) (.cons (.ite (.bin .eq Q84 (.n 35)) Q2 V40) (.cons (.ite (.bin .eq Q84 (.n 36)) Q2 V41) (.cons (.ite (.bin .eq Q84 (.n 37)) Q2 V42) (.cons (.ite (.bin .eq Q84 (.n 38)) Q2 V43) (.cons (.ite (.bin .eq Q84 (.n 39)) Q2 V44) (.cons (.ite (.bin .eq Q84 (.n 40)) Q2 V45) (.cons (.ite (.bin .eq Q84 (.n 41)) Q2 V46) (.cons (.ite (.bin .eq Q84 (.n 42)) Q2 V47) (.cons (.ite (.bin .eq Q84 (.n 43)) Q2 V48) (.cons (.ite (.bin .eq Q84 (.n 44)) Q2 V49) (.cons (.ite (.bin .eq Q84 (.n 45)) Q2 V50) (.cons (.ite (.bin .eq Q84 (.n 46)) Q2 V51) (.cons (.ite (.bin .eq Q84 (.n 47)) Q2 V52) (.cons (.ite (.bin .eq Q84 (.n 48)) Q2 V53) (.cons (.ite (.bin .eq Q84 (.n 49)) Q2 V54) (.cons (.ite (.bin .eq Q84 (.n 50)) Q2 V55) (.cons (.ite (.bin .eq Q84 (.n 51)) Q2 V56) (.cons (.ite (.bin .eq Q84 (.n 52)) Q2 V57) (.cons (.ite (.bin .eq Q84 (.n 53)) Q2 V58) (.cons (.ite (.bin .eq Q84 (.n 54)) Q2 V59) (.cons (.ite (.bin .eq Q84 (.n 55)) Q2 V60) (.cons (.ite (.bin .eq Q84 (.n 56)) Q2 V61) (.cons (.ite (.bin .eq Q84 (.n 57)) Q2 V62) (.cons (.ite (.bin .eq Q84 (.n 58)) Q2 V63) (.cons (.ite (.bin .eq Q84 (.n 59)) Q2 V64) (.cons (.ite (.bin .eq Q84 (.n 60)) Q2 V65) (.cons (.ite (.bin .eq Q84 (.n 61)) Q2 V66) (.cons (.ite (.bin .eq Q84 (.n 62)) Q2 V67) (.cons (.ite (.bin .eq Q84 (.n 63)) Q2 V68) .nil)))))))))))))))))))))))))))))))))))))))))))))))))))))))))))))))))))))))
 (.ret (.cons (.n (-1)) (.cons Q236 Q5))))))
 (.ret (.cons N0 (.cons V2 Q5))))
theorem le52_0 : (loopVT Tryd.prog (sgOf sg52) (ltOf lt52) L52_0 lb52_0).slim L52_0.nv [] = rt52_0 := by kernel_rfl
theorem lf52_0 : (firstRegion lb52_0).bind (ltOf lt52) = some L52_0 := by kernel_rfl
theorem lk52_0 : (Code.loops lb52_0).length = 0 := by kernel_rfl
def rt52_1 : VT :=
 (.ite (.bin .lt V3 V2)
 (.need Tt (.c (.bin .le N0 V3))
 (.need Tt (.c Q254)
 (.ite Q172
 (.ret (.cons (.n (-1)) (.cons Q237 (.cons V4 (.cons V70 .nil)))))
 (.need Tt (.c (.bin .le (.un .len V4) (.n 17592186044416)))
 (.need Tt (.c (.bin .eq (.un .len (.rep (.un .len V4) (.cons N0 .nil))) (.un .len V4)))
 (.need Tt (.c Q239)
 (.need Tt (.c Q180)
 (.need Tt (.c (.bin .le N0 (.sel 1 V1 V3)))
 (.need Tt (.pre 70 Q0)
 (.lt (.app 70 Q0 0) 1
 (.ite (.bin .eq V71 V0)
 (.need Tt (.c (.bin .le (.un .len Q144) (.n 17592186044416)))
 (.ret (.cons (.n (-1)) (.cons Q237 (.cons Q30 (.cons Q144 .nil))))))
 (.need Tt (.c (.bin .lt (.sel 1 V1 V3) (.un .len V4)))
 (.ret (.cons (.n (-1)) (.cons Q237 (.cons (.upd 0 V4 (.sel 1 V1 V3) (.cons (.bin (.or .i64) (.sel 0 V4 (.sel 1 V1 V3)) (.bin (.shl .i64) (.n 1) (.sel 0 V1 V3))) .nil)) (.cons V70 .nil)))))))))))))))))
 (.ret (.cons N0 (.cons V3 (.cons V4 (.cons V70 .nil))))))
theorem le52_1 : (loopVT Tryd.prog (sgOf sg52) (ltOf lt52) L52_1 lb52_1).slim L52_1.nv [] = rt52_1 := by kernel_rfl
theorem lf52_1 : (firstRegion lb52_1).bind (ltOf lt52) = some L52_1 := by kernel_rfl
theorem lk52_1 : (Code.loops lb52_1).length = 0 := by kernel_rfl
def vt52 : VT :=
 (.need Tt (.pre 69 Q261)
 (.lt Q187 1
 (.ite (.un .not V2)
 (.ret Q221)
 (.ite (.bin .lt (.n 8) V0)
 (.ret Q222)
 (.need Tt (.c (.bin .le N0 V0))
 (.need Tt (.c Q223)
 (.need Tt (.pre 15200 Q4)
 (.lt (.app 15200 Q4 0) 66
 (.need Tt (.pre 70 Q3)
 (.lt (.app 70 Q3 0) 1
 (.need Tt (.pre 15201 Q1)
 (.lt (.app 15201 Q1 0) 4
 (.ret (.cons V73 (.cons N0 .nil)))))))))))))))
theorem e52 : (fnVT Tryd.prog (sgOf sg52) (ltOf lt52) S52 Tryd.f52 c52).slim (S52.ps.map fun p => p.2.length).sum [] = vt52 := by kernel_rfl
def S53 : Sig := ⟨[(true, [i6, Ty5])], [(false, [Ty6])], [], none⟩
noncomputable def c53 : Code := Tryd.f53.body.getD .skip
theorem b53 : Tryd.f53.body = some c53 := body_some (by kernel_rfl)
theorem n53 : (Tryd.f53.name == "runtime.NumGoroutine") = false := by kernel_rfl
def S91 : Sig := ⟨[(false, [Ty6]), (false, [i6])], [(false, [i6])], [], none⟩
noncomputable def c91 : Code := Tryd.f91.body.getD .skip
theorem b91 : Tryd.f91.body = some c91 := body_some (by kernel_rfl)
theorem n91 : (Tryd.f91.name == "runtime.NumGoroutine") = false := by kernel_rfl
def sg91 : List (FuncId × Sig) := []
def L91_0 : LoopSig := ⟨19100, [],
  ⟨[(.c (.x Ty6 V0)), (.c (.x i6 V1)), .any, .any, (.c (.x i6 V2)), .any, .any, (.c (.x i6 V3)), (.c (.x i6 V4)), ] ++ an 9 ++ [.any],
  []⟩,
  5, [2, 4], ([9, 10, 5] ++ rg 11 7 ++ [4, 18, 8]), [.ret, (.exit 0)], []⟩
def lt91 : List (Nat × LoopSig) := [(2, L91_0)]
theorem k91 : (Code.loops c91).length = 1 := by kernel_rfl
noncomputable def lb91_0 : Code := (Code.loops c91).getD 0 .skip
def rt91_0 : VT :=
 (.ite (.bin .lt V4 V3)
 (.need Tt (.c (.bin .le N0 V4))
 (.need Tt (.c Q253)
 (.ite (.bin .eq V1 (.sel 0 V0 V4))
 (.ret Q194)
 (.ret Q92))))
 (.ret Q165))
theorem le91_0 : (loopVT Tryd.prog (sgOf sg91) (ltOf lt91) L91_0 lb91_0).slim L91_0.nv [] = rt91_0 := by kernel_rfl
theorem lf91_0 : (firstRegion lb91_0).bind (ltOf lt91) = some L91_0 := by kernel_rfl
theorem lk91_0 : (Code.loops lb91_0).length = 0 := by kernel_rfl
def vt91 : VT :=
 (.need Tt (.pre 19100 Q93)
 (.lt (.app 19100 Q93 0) 3
 (.ite (.bin .eq V2 N0)
 (.ret (.cons V3 .nil))
 (.ret (.cons (.n (-1)) .nil)))))
theorem e91 : (fnVT Tryd.prog (sgOf sg91) (ltOf lt91) S91 Tryd.f91 c91).slim (S91.ps.map fun p => p.2.length).sum [] = vt91 := by kernel_rfl
def S90 : Sig := ⟨[(false, [Ty6]), (false, [i6])], [(false, [.bool])], [], none⟩
noncomputable def c90 : Code := Tryd.f90.body.getD .skip
theorem b90 : Tryd.f90.body = some c90 := body_some (by kernel_rfl)
theorem n90 : (Tryd.f90.name == "runtime.NumGoroutine") = false := by kernel_rfl
def sg90 : List (FuncId × Sig) := [(91, S91)]
def lt90 : List (Nat × LoopSig) := []
theorem k90 : (Code.loops c90).length = 0 := by kernel_rfl
def vt90 : VT :=
 (.need Tt (.pre 91 Q261)
 (.lt (.app 91 Q261 0) 1
 (.ret Q231)))
theorem e90 : (fnVT Tryd.prog (sgOf sg90) (ltOf lt90) S90 Tryd.f90 c90).slim (S90.ps.map fun p => p.2.length).sum [] = vt90 := by kernel_rfl
def S86 : Sig := ⟨[(false, [Ty6]), (false, [i6])], [(false, [.bool])], [], none⟩
noncomputable def c86 : Code := Tryd.f86.body.getD .skip
theorem b86 : Tryd.f86.body = some c86 := body_some (by kernel_rfl)
theorem n86 : (Tryd.f86.name == "runtime.NumGoroutine") = false := by kernel_rfl
def sg86 : List (FuncId × Sig) := [(90, S90)]
def lt86 : List (Nat × LoopSig) := []
theorem k86 : (Code.loops c86).length = 0 := by kernel_rfl
def vt86 : VT :=
 (.need Tt (.c (.bin .le N0 V1))
 (.need Tt (.c (.bin .le V1 (.un .len V0)))
 (.need Tt (.c Q257)
 (.need Tt (.pre 90 Q134)
 (.lt (.app 90 Q134 0) 1
 (.ret (.cons V2 .nil)))))))
theorem e86 : (fnVT Tryd.prog (sgOf sg86) (ltOf lt86) S86 Tryd.f86 c86).slim (S86.ps.map fun p => p.2.length).sum [] = vt86 := by kernel_rfl
def S72 : Sig := ⟨[(false, [Ty6]), (false, [i6])], [(false, [i6])], [], none⟩
noncomputable def c72 : Code := Tryd.f72.body.getD .skip
theorem b72 : Tryd.f72.body = some c72 := body_some (by kernel_rfl)
theorem n72 : (Tryd.f72.name == "runtime.NumGoroutine") = false := by kernel_rfl
def sg72 : List (FuncId × Sig) := [(86, S86)]
def L72_0 : LoopSig := ⟨17200, [],
  ⟨[(.c (.x Ty6 V0)), (.c (.x i6 V1)), .any, .any, (.c (.x i6 V2)), .any, .any, (.c (.x Ty6 V3)), (.c (.x i6 V4)), (.c (.x i6 V5)), ] ++ an 14 ++ [.any],
  []⟩,
  6, [2, 5], ([10, 11, 12, 13, 5, 6] ++ rg 14 7 ++ [4, 21, 22, 23, 24, 9]), [.ret, (.exit 0)], []⟩
def lt72 : List (Nat × LoopSig) := [(2, L72_0)]
theorem k72 : (Code.loops c72).length = 1 := by kernel_rfl
noncomputable def lb72_0 : Code := (Code.loops c72).getD 0 .skip
def rt72_0 : VT :=
 (.ite (.bin .lt V5 V4)
 (.need Tt (.c (.bin .le N0 V5))
 (.need Tt (.c (.bin .lt V5 (.un .len V3)))
 (.ite (.ite (.bin .lt (.sel 0 V3 V5) N0) Tt (.bin .le V1 (.sel 0 V3 V5)))
 (.ret (.cons N0 (.cons (.n 3) (.cons V5 .nil))))
 (.need Tt (.pre 86 Q270)
 (.lt (.app 86 Q270 0) 1
 (.ite V6
 (.ret (.cons N0 (.cons (.n 6) (.cons V5 .nil))))
 (.ret (.cons (.n (-1)) (.cons V2 (.cons (.bin (.add .i64) V5 (.n 1)) .nil))))))))))
 (.ret (.cons (.n 1) (.cons V2 (.cons V5 .nil)))))
theorem le72_0 : (loopVT Tryd.prog (sgOf sg72) (ltOf lt72) L72_0 lb72_0).slim L72_0.nv [] = rt72_0 := by kernel_rfl
theorem lf72_0 : (firstRegion lb72_0).bind (ltOf lt72) = some L72_0 := by kernel_rfl
theorem lk72_0 : (Code.loops lb72_0).length = 0 := by kernel_rfl
def vt72 : VT :=
 (.need Tt (.pre 17200 Q74)
 (.lt (.app 17200 Q74 0) 3
 (.ite (.bin .eq V2 N0)
 (.ret (.cons V3 .nil))
 (.ret (.cons N0 .nil)))))
theorem e72 : (fnVT Tryd.prog (sgOf sg72) (ltOf lt72) S72 Tryd.f72 c72).slim (S72.ps.map fun p => p.2.length).sum [] = vt72 := by kernel_rfl
def S73 : Sig := ⟨[(false, [Ty5])], [(false, [(.osl 62 [i6, i6])])], [], none⟩
noncomputable def c73 : Code := Tryd.f73.body.getD .skip
theorem b73 : Tryd.f73.body = some c73 := body_some (by kernel_rfl)
theorem n73 : (Tryd.f73.name == "runtime.NumGoroutine") = false := by kernel_rfl
def S54 : Sig := ⟨[(true, [i6, Ty5]), (false, [Ty6])], [(true, [i6, Ty5]), (false, [i6])], [], none⟩
noncomputable def c54 : Code := Tryd.f54.body.getD .skip
theorem b54 : Tryd.f54.body = some c54 := body_some (by kernel_rfl)
theorem n54 : (Tryd.f54.name == "runtime.NumGoroutine") = false := by kernel_rfl
def sg54 : List (FuncId × Sig) := [(69, S69), (72, S72), (73, S73)]
def L54_0 : LoopSig := ⟨15400, [],
  ⟨[.any, .any, (.c (.ptr 0 0)), .any, .any, .any, .any, (.c (.ptr 3 0)), ] ++ an 21 ++ [(.c (.x Ty6 V0)), (.c (.x i6 V1)), (.c (.x i6 V2)), ] ++ an 21 ++ [.any],
  [some ⟨Tt, (.box 58 [(.x i6 V3), (.x Ty5 V4)] false)⟩, none, some ⟨Tt, (.row 62 [i6, i6] V5 1 false)⟩, some ⟨Tt, (.box 58 [(.x i6 V6), (.row 2 1)] false)⟩]⟩,
  7, [2, 5], ([32, 33, 34, 9] ++ rg 35 18 ++ [31]), [(.exit 0)], []⟩
def lt54 : List (Nat × LoopSig) := [(8, L54_0)]
theorem k54 : (Code.loops c54).length = 1 := by kernel_rfl
noncomputable def lb54_0 : Code := (Code.loops c54).getD 0 .skip
def rt54_0 : VT :=
 (.ite (.bin .lt V2 V1)
 (.need Tt (.c (.bin .le N0 V2))
 (.need Tt (.c Q246)
 (.need Tt (.c Q238)
 (.need Tt (.c (.bin .lt (.sel 0 V0 V2) (.un .len V4)))
 (.need Tt (.c (.bin .lt (.sel 0 V0 V2) (.un .len V5)))
 (.ret (.cons (.n (-1)) (.cons Q236 (.cons (.upd 0 V5 (.sel 0 V0 V2) (.cons (.sel 1 V4 (.sel 0 V0 V2)) (.cons (.sel 0 V4 (.sel 0 V0 V2)) .nil))) .nil)))))))))
 (.ret (.cons N0 (.cons V2 (.cons V5 .nil)))))
theorem le54_0 : (loopVT Tryd.prog (sgOf sg54) (ltOf lt54) L54_0 lb54_0).slim L54_0.nv [] = rt54_0 := by kernel_rfl
theorem lf54_0 : (firstRegion lb54_0).bind (ltOf lt54) = some L54_0 := by kernel_rfl
theorem lk54_0 : (Code.loops lb54_0).length = 0 := by kernel_rfl
def vt54 : VT :=
 (.need Tt (.pre 69 Q261)
 (.lt Q187 1
 (.ite (.un .not V3)
 (.ret (.cons N0 Q221))
 (.need Tt (.pre 72 Q201)
 (.lt (.app 72 Q201 0) 1
 (.ite (.un .not (.bin .eq V4 N0))
 (.ret (.cons N0 (.cons .lnil (.cons V4 .nil))))
 (.need Tt (.pre 73 (.cons V1 .nil))
 (.lt (.app 73 (.cons V1 .nil) 0) 1
 (.need Tt (.pre 15400 Q54)
 (.lt (.app 15400 Q54 0) 3
 (.ret (.cons V0 (.cons V8 (.cons N0 .nil))))))))))))))
theorem e54 : (fnVT Tryd.prog (sgOf sg54) (ltOf lt54) S54 Tryd.f54 c54).slim (S54.ps.map fun p => p.2.length).sum [] = vt54 := by kernel_rfl
def S33 : Sig := ⟨[(true, [i6, Ty5])], [(false, [Ty6]), (true, [i6, Ty5])], [], none⟩
noncomputable def c33 : Code := Tryd.f33.body.getD .skip
theorem b33 : Tryd.f33.body = some c33 := body_some (by kernel_rfl)
theorem n33 : (Tryd.f33.name == "runtime.NumGoroutine") = false := by kernel_rfl
def sg33 : List (FuncId × Sig) := [(52, S52), (53, S53), (54, S54)]
def lt33 : List (Nat × LoopSig) := []
theorem k33 : (Code.loops c33).length = 0 := by kernel_rfl
def vt33 : VT :=
 (.need Tt (.pre 52 Q261)
 (.lt (.app 52 Q261 0) 2
 (.ite (.un .not (.bin .eq V3 N0))
 (.need Tt (.pre 53 Q261)
 (.lt (.app 53 Q261 0) 1
 (.need Tt (.pre 54 Q202)
 (.lt (.app 54 Q202 0) 3
 (.ite Q252
 (.ret Q154)
 (.ret Q203))))))
 (.need Tt (.pre 54 Q204)
 (.lt (.app 54 Q204 0) 3
 (.ite (.un .not (.bin .eq V6 N0))
 (.ret Q154)
 (.ret Q205)))))))
theorem e33 : (fnVT Tryd.prog (sgOf sg33) (ltOf lt33) S33 Tryd.f33 c33).slim (S33.ps.map fun p => p.2.length).sum [] = vt33 := by kernel_rfl
def S18 : Sig := ⟨[(true, [.str, .bool, Ty0, Ty1, Ty4])], [(true, [i6, Ty5, Ty6])], [], none⟩
noncomputable def c18 : Code := Tryd.f18.body.getD .skip
theorem b18 : Tryd.f18.body = some c18 := body_some (by kernel_rfl)
theorem n18 : (Tryd.f18.name == "runtime.NumGoroutine") = false := by kernel_rfl
def sg18 : List (FuncId × Sig) := [(34, S34), (33, S33)]
def L18_0 : LoopSig := ⟨11800, [(1, some 1, 62), (1, some 2, 3), (3, some 1, 62), (3, some 2, 3)],
  ⟨[.any, .any, .any, .any, .any, (.c (.ptr 3 0)), ] ++ an 14 ++ [(.c (.x Ty5 V0)), (.c (.x i6 V1)), (.c (.x i6 V2)), ] ++ an 24 ++ [.any],
  [none, none, none, some ⟨Tt, (.box 64 [(.x i6 V3), (.row 6 1), (.row 7 1)] false)⟩, none, none, some ⟨Tt, (.row 62 [i6, i6] V4 1 false)⟩, some ⟨Tt, (.row 3 [i6] V5 1 false)⟩]⟩,
  6, [2, 4, 5], ([23, 24, 25, 26, 7, 6] ++ rg 27 20 ++ [22]), [(.exit 0)], [4, 5]⟩
def lt18 : List (Nat × LoopSig) := [(4, L18_0)]
theorem k18 : (Code.loops c18).length = 1 := by kernel_rfl
noncomputable def lb18_0 : Code := (Code.loops c18).getD 0 .skip
def rt18_0 : VT :=
 (.ite (.bin .lt V2 V1)
 (.need Tt (.c (.bin .le N0 V2))
 (.need Tt (.c Q246)
 (.ite Q133
 (.need Tt (.c Q31)
 (.need Tt (.c (.bin .le (.un .len Q151) (.n 17592186044416)))
 (.ret (.cons (.n (-1)) (.cons Q236 (.cons Q77 (.cons Q151 .nil)))))))
 (.ret (.cons (.n (-1)) (.cons Q236 Q265))))))
 (.ret (.cons N0 Q205)))
theorem le18_0 : (loopVT Tryd.prog (sgOf sg18) (ltOf lt18) L18_0 lb18_0).slim L18_0.nv [] = rt18_0 := by kernel_rfl
theorem lf18_0 : (firstRegion lb18_0).bind (ltOf lt18) = some L18_0 := by kernel_rfl
theorem lk18_0 : (Code.loops lb18_0).length = 0 := by kernel_rfl
def vt18 : VT :=
 (.need Tt (.pre 34 Q113)
 (.lt (.app 34 Q113 0) 2
 (.need Tt (.pre 33 Q271)
 (.lt (.app 33 Q271 0) 3
 (.need Tt (.pre 11800 Q49)
 (.lt (.app 11800 Q49 0) 4
 (.ret (.cons (.un .len V2) (.cons V12 (.cons V13 .nil))))))))))
theorem e18 : (fnVT Tryd.prog (sgOf sg18) (ltOf lt18) S18 Tryd.f18 c18).slim (S18.ps.map fun p => p.2.length).sum [] = vt18 := by kernel_rfl
def S36 : Sig := ⟨[(true, [i6, Ty2])], [(false, [.bool])], [], none⟩
noncomputable def c36 : Code := Tryd.f36.body.getD .skip
theorem b36 : Tryd.f36.body = some c36 := body_some (by kernel_rfl)
theorem n36 : (Tryd.f36.name == "runtime.NumGoroutine") = false := by kernel_rfl
def sg36 : List (FuncId × Sig) := []
def L36_0 : LoopSig := ⟨13600, [],
  ⟨[.any, (.c (.ptr 0 0)), (.c (.x .bool V0)), ] ++ an 17 ++ [(.c (.x Ty2 V1)), (.c (.x i6 V2)), (.c (.x i6 V3)), ] ++ an 46 ++ [.any],
  [some ⟨Tt, (.box 35 [(.x i6 V4), (.x Ty2 V5)] false)⟩]⟩,
  6, [0, 3], ([23, 24, 25, 4] ++ rg 26 43 ++ [2, 69, 22]), [.ret, (.exit 0)], []⟩
def lt36 : List (Nat × LoopSig) := [(4, L36_0)]
theorem k36 : (Code.loops c36).length = 1 := by kernel_rfl
noncomputable def lb36_0 : Code := (Code.loops c36).getD 0 .skip
def rt36_0 : VT :=
 (.ite (.bin .lt V3 V2)
 (.need Tt (.c (.bin .le N0 V3))
 (.need Tt (.c Q254)
 (.ite (.ite (.ite (.ite (.ite (.ite (.ite Q128 Tt Q129) Tt Q172) Tt (.bin .lt (.sel 2 V1 V3) (.n (-16777216)))) Tt (.bin .lt (.n 16777216) (.sel 2 V1 V3))) Tt (.bin .lt (.sel 3 V1 V3) N0)) Tt (.bin .lt (.n 8000) (.sel 3 V1 V3)))
 (.ret Q150)
 (.ret Q94))))
 (.ret Q166))
theorem le36_0 : (loopVT Tryd.prog (sgOf sg36) (ltOf lt36) L36_0 lb36_0).slim L36_0.nv [] = rt36_0 := by kernel_rfl
theorem lf36_0 : (firstRegion lb36_0).bind (ltOf lt36) = some L36_0 := by kernel_rfl
theorem lk36_0 : (Code.loops lb36_0).length = 0 := by kernel_rfl
def vt36 : VT :=
 (.ite (.ite (.ite (.bin .lt V0 N0) Tt (.bin .lt (.n 2048) V0)) Tt (.bin .lt (.n 4096) (.un .len V1)))
 (.ret (.cons (.t false) .nil))
 (.need Tt (.pre 13600 Q59)
 (.lt (.app 13600 Q59 0) 3
 (.ite (.bin .eq V2 N0)
 (.ret (.cons V3 .nil))
 (.ret (.cons Tt .nil))))))
theorem e36 : (fnVT Tryd.prog (sgOf sg36) (ltOf lt36) S36 Tryd.f36 c36).slim (S36.ps.map fun p => p.2.length).sum [] = vt36 := by kernel_rfl
def S56 : Sig := ⟨[(false, [(.pn [i6, Ty2, Ty6])])], [(false, [(.osl 3 [i6])])], [], none⟩
noncomputable def c56 : Code := Tryd.f56.body.getD .skip
theorem b56 : Tryd.f56.body = some c56 := body_some (by kernel_rfl)
theorem n56 : (Tryd.f56.name == "runtime.NumGoroutine") = false := by kernel_rfl
def sg56 : List (FuncId × Sig) := []
def L56_0 : LoopSig := ⟨15600, [],
  ⟨[.any, .any, .any, (.c (.row 0 1)), ] ++ an 8 ++ [(.c (.x i6 V0)), (.c (.x i6 V1)), ] ++ an 7 ++ [.any],
  [some ⟨Tt, (.row 3 [i6] V2 1 false)⟩]⟩,
  3, [1, 2], [14, 15, 4, 16, 17, 18, 19, 20, 13], [(.exit 0)], []⟩
def lt56 : List (Nat × LoopSig) := [(3, L56_0)]
theorem k56 : (Code.loops c56).length = 1 := by kernel_rfl
noncomputable def lb56_0 : Code := (Code.loops c56).getD 0 .skip
def rt56_0 : VT :=
 (.ite (.bin .lt V1 V0)
 (.need Tt (.c (.bin .le N0 V1))
 (.need Tt (.c Q256)
 (.ret (.cons (.n (-1)) (.cons Q233 (.cons (.upd 0 V2 V1 (.cons V1 .nil)) .nil))))))
 (.ret Q198))
theorem le56_0 : (loopVT Tryd.prog (sgOf sg56) (ltOf lt56) L56_0 lb56_0).slim L56_0.nv [] = rt56_0 := by kernel_rfl
theorem lf56_0 : (firstRegion lb56_0).bind (ltOf lt56) = some L56_0 := by kernel_rfl
theorem lk56_0 : (Code.loops lb56_0).length = 0 := by kernel_rfl
def vt56 : VT :=
 (.need Tt (.c (.un (.pnn 3) V0))
 (.need Tt (.c Q269)
 (.need Tt (.c Q155)
 (.need Tt (.pre 15600 Q37)
 (.lt (.app 15600 Q37 0) 3
 (.ret (.cons V3 .nil)))))))
theorem e56 : (fnVT Tryd.prog (sgOf sg56) (ltOf lt56) S56 Tryd.f56 c56).slim (S56.ps.map fun p => p.2.length).sum [] = vt56 := by kernel_rfl
def S74 : Sig := ⟨[(false, [(.pn [i6, Ty2, Ty6])])], [(false, [(.sl 118 [(.sl 96 [i6, i6, i6, .bool])])])], [], none⟩
noncomputable def c74 : Code := Tryd.f74.body.getD .skip
theorem b74 : Tryd.f74.body = some c74 := body_some (by kernel_rfl)
theorem n74 : (Tryd.f74.name == "runtime.NumGoroutine") = false := by kernel_rfl
def S55 : Sig := ⟨[(false, [(.pn [i6, Ty2, Ty6])]), (false, [Ty6])], [(false, [(.osl 98 [i6, i6, i6, i6, i6, .bool, .bool])]), (false, [.bool])], [], none⟩
noncomputable def c55 : Code := Tryd.f55.body.getD .skip
theorem b55 : Tryd.f55.body = some c55 := body_some (by kernel_rfl)
theorem n55 : (Tryd.f55.name == "runtime.NumGoroutine") = false := by kernel_rfl
def sg55 : List (FuncId × Sig) := [(74, S74)]
def L55_0 : LoopSig := ⟨15500, [],
  ⟨[] ++ an 7 ++ [(.c (.row 0 1)), ] ++ an 21 ++ [(.c (.x i6 V0)), (.c (.x i6 V1)), ] ++ an 97 ++ [.any],
  [some ⟨Tt, (.row 98 [i6, i6, i6, i6, i6, .bool, .bool] V2 1 false)⟩]⟩,
  3, [1, 2], [31, 32, 8, 33, 34, 35, 36, 37, 30], [(.exit 0)], []⟩
def L55_1 : LoopSig := ⟨15501, [],
  ⟨[] ++ an 7 ++ [(.c (.row 0 1)), ] ++ an 30 ++ [(.c (.x Ty6 V0)), (.c (.x i6 V1)), (.c (.x i6 V2)), ] ++ an 87 ++ [.any],
  [some ⟨Tt, (.row 98 [i6, i6, i6, i6, i6, .bool, .bool] V3 1 false)⟩]⟩,
  4, [2, 3], [41, 42, 43, 10, 44, 45, 46, 47, 48, 40], [(.exit 2)], []⟩
def L55_2 : LoopSig := ⟨15504, [],
  ⟨[(.c (.x (.pn [i6, Ty2, Ty6]) V0)), .any, .any, .any, (.c (.x (.sl 98 [i6, i6, i6, i6, i6, .bool, .bool]) V1)), (.c (.x .bool V2)), (.c (.x (.sl 118 [(.sl 96 [i6, i6, i6, .bool])]) V3)), (.c (.row 0 1)), .any, .any, .any, (.c (.x Ty6 V4)), (.c (.row 1 1)), (.c (.x i6 V5)), ] ++ an 114 ++ [.any],
  [some ⟨Tt, (.row 98 [i6, i6, i6, i6, i6, .bool, .bool] V6 1 false)⟩, some ⟨Tt, (.row 4 [.bool] V7 1 false)⟩]⟩,
  8, [1, 2, 4, 5, 6, 7], (rg 56 10 ++ [4, 5, 66, 67, 13, 14] ++ rg 68 6 ++ [16] ++ rg 74 12 ++ [18] ++ rg 86 8 ++ [19] ++ rg 94 34 ++ [11]), [.ret, (.exit 4)], []⟩
def L55_3 : LoopSig := ⟨15503, [(14, none, 3)],
  ⟨[] ++ an 6 ++ [(.c (.x (.sl 118 [(.sl 96 [i6, i6, i6, .bool])]) V0)), (.c (.row 0 1)), .any, .any, .any, .any, (.c (.row 1 1)), .any, (.c (.row 2 1)), ] ++ an 53 ++ [(.c (.x Ty6 V1)), (.c (.x i6 V2)), (.c (.x i6 V3)), ] ++ an 57 ++ [.any],
  [some ⟨Tt, (.row 98 [i6, i6, i6, i6, i6, .bool, .bool] V4 1 false)⟩, some ⟨Tt, (.row 4 [.bool] V5 1 false)⟩, some ⟨Tt, (.row 3 [i6] V6 1 false)⟩]⟩,
  7, [3, 4, 5, 6], ([71, 72, 73, 16] ++ rg 74 12 ++ [18] ++ rg 86 8 ++ [19] ++ rg 94 31 ++ [14, 125, 126, 70]), [(.exit 6)], [6]⟩
def L55_4 : LoopSig := ⟨15502, [],
  ⟨[] ++ an 7 ++ [(.c (.row 0 1)), .any, .any, .any, .any, (.c (.row 1 1)), .any, (.c (.row 2 1)), .any, (.c (.x i6 V0)), ] ++ an 63 ++ [(.c (.x (.sl 96 [i6, i6, i6, .bool]) V1)), (.c (.x i6 V2)), (.c (.x i6 V3)), ] ++ an 45 ++ [.any],
  [some ⟨Tt, (.row 98 [i6, i6, i6, i6, i6, .bool, .bool] V4 1 false)⟩, some ⟨Tt, (.row 4 [.bool] V5 1 false)⟩, some ⟨Tt, (.row 3 [i6] V6 1 false)⟩]⟩,
  7, [3, 4, 5, 6], ([83, 84, 85, 18] ++ rg 86 8 ++ [19] ++ rg 94 31 ++ [14, 125, 82]), [(.exit 8)], [6]⟩
def lt55 : List (Nat × LoopSig) := [(4, L55_0), (9, L55_1), (14, L55_2), (20, L55_3), (24, L55_4)]
theorem k55 : (Code.loops c55).length = 5 := by kernel_rfl
noncomputable def lb55_0 : Code := (Code.loops c55).getD 0 .skip
noncomputable def lb55_1 : Code := (Code.loops c55).getD 1 .skip
noncomputable def lb55_2 : Code := (Code.loops c55).getD 2 .skip
noncomputable def lb55_3 : Code := (Code.loops c55).getD 3 .skip
noncomputable def lb55_4 : Code := (Code.loops c55).getD 4 .skip
def rt55_0 : VT :=
 (.ite (.bin .lt V1 V0)
 (.need Tt (.c (.bin .le N0 V1))
 (.need Tt (.c Q256)
 (.ret (.cons (.n (-1)) (.cons Q233 (.cons (.upd 0 V2 V1 (.cons (.n (-1152921504606846976)) .nil)) .nil))))))
 (.ret Q198))
theorem le55_0 : (loopVT Tryd.prog (sgOf sg55) (ltOf lt55) L55_0 lb55_0).slim L55_0.nv [] = rt55_0 := by kernel_rfl
theorem lf55_0 : (firstRegion lb55_0).bind (ltOf lt55) = some L55_0 := by kernel_rfl
theorem lk55_0 : (Code.loops lb55_0).length = 0 := by kernel_rfl
def rt55_1 : VT :=
 (.ite (.bin .lt V2 V1)
 (.need Tt (.c (.bin .le N0 V2))
 (.need Tt (.c Q246)
 (.need Tt (.c Q238)
 (.need Tt (.c (.bin .lt (.sel 0 V0 V2) (.un .len V3)))
 (.ret (.cons (.n (-1)) (.cons Q236 (.cons (.upd 0 V3 (.sel 0 V0 V2) (.cons N0 (.cons N0 (.cons N0 (.cons N0 (.cons N0 (.cons (.t false) (.cons Tt .nil)))))))) .nil))))))))
 (.ret Q200))
theorem le55_1 : (loopVT Tryd.prog (sgOf sg55) (ltOf lt55) L55_1 lb55_1).slim L55_1.nv [] = rt55_1 := by kernel_rfl
theorem lf55_1 : (firstRegion lb55_1).bind (ltOf lt55) = some L55_1 := by kernel_rfl
theorem lk55_1 : (Code.loops lb55_1).length = 0 := by kernel_rfl
def rt55_2 : VT :=
 (.ite (.bin .lt N0 (.un .len V4))
 (.need Tt (.c (.un (.pnn 3) V0))
 (.ite (.bin .lt (.psel 0 V0) V5)
 (.ret (.cons N0 (.cons .lnil (.cons (.t false) Q140))))
 (.need Tt (.pre 15503 Q51)
 (.lt (.app 15503 Q51 0) 5
 (.ret (.cons (.n (-1)) (.cons V1 (.cons V2 (.cons V12 (.cons (.bin (.add .i64) V5 (.n 1)) (.cons V10 (.cons V11 .nil))))))))))))
 (.ret (.cons (.n 1) (.cons V1 (.cons V2 Q140)))))
theorem le55_2 : (loopVT Tryd.prog (sgOf sg55) (ltOf lt55) L55_2 lb55_2).slim L55_2.nv [] = rt55_2 := by kernel_rfl
theorem lf55_2 : (firstRegion lb55_2).bind (ltOf lt55) = some L55_2 := by kernel_rfl
theorem lk55_2 : (Code.loops lb55_2).length = 2 := by kernel_rfl
theorem li55_2_0 : (Code.loops lb55_2).getD 0 .skip = lb55_3 := by kernel_rfl
theorem li55_2_1 : (Code.loops lb55_2).getD 1 .skip = lb55_4 := by kernel_rfl
def rt55_3 : VT :=
 (.ite (.bin .lt V3 V2)
 (.need Tt (.c (.bin .le N0 V3))
 (.need Tt (.c Q254)
 (.need Tt (.c Q239)
 (.need Tt (.c Q181)
 (.need Tt (.c (.bin .lt (.sel 0 V1 V3) (.un .len V0)))
 (.need Tt (.pre 15502 Q13)
 (.lt (.app 15502 Q13 0) 5
 (.ret (.cons (.n (-1)) (.cons Q237 Q182))))))))))
 (.ret Q119))
theorem le55_3 : (loopVT Tryd.prog (sgOf sg55) (ltOf lt55) L55_3 lb55_3).slim L55_3.nv [] = rt55_3 := by kernel_rfl
theorem lf55_3 : (firstRegion lb55_3).bind (ltOf lt55) = some L55_3 := by kernel_rfl
theorem lk55_3 : (Code.loops lb55_3).length = 1 := by kernel_rfl
theorem li55_3_0 : (Code.loops lb55_3).getD 0 .skip = lb55_4 := by kernel_rfl
def rt55_4 : VT :=
 (.ite (.bin .lt V3 V2)
 (.need Tt (.c (.bin .le N0 V3))
 (.need Tt (.c Q254)
 (.need Tt (.c (.bin .le N0 V0))
 (.need Tt (.c Q258)
 (.need Tt (.c Q239)
 (.need Tt (.c Q180)
 (.ite (.bin .lt (.sel 0 V4 (.sel 0 V1 V3)) Q141)
 (.need Tt (.c Q181)
 (.ite (.un .not (.sel 0 V5 (.sel 0 V1 V3)))
 (.need Tt (.c (.bin .le (.un .len Q122) (.n 17592186044416)))
 (.ret (.cons (.n (-1)) (.cons Q237 (.cons Q12 (.cons (.upd 0 V5 (.sel 0 V1 V3) (.cons Tt .nil)) (.cons Q122 .nil)))))))
 (.ret (.cons (.n (-1)) (.cons Q237 (.cons Q12 Q271))))))
 (.ret (.cons (.n (-1)) (.cons Q237 Q203))))))))))
 (.ret Q119))
theorem le55_4 : (loopVT Tryd.prog (sgOf sg55) (ltOf lt55) L55_4 lb55_4).slim L55_4.nv [] = rt55_4 := by kernel_rfl
theorem lf55_4 : (firstRegion lb55_4).bind (ltOf lt55) = some L55_4 := by kernel_rfl
theorem lk55_4 : (Code.loops lb55_4).length = 0 := by kernel_rfl
def vt55 : VT :=
 (.need Tt (.pre 74 (.cons V0 .nil))
 (.lt (.app 74 (.cons V0 .nil) 0) 1
 (.need Tt (.c (.un (.pnn 3) V0))
 (.need Tt (.c Q269)
 (.need Tt (.c (.bin .le (.psel 0 V0) (.n 2513169434916)))
 (.need Tt (.pre 15500 Q8)
 (.lt (.app 15500 Q8 0) 3
 (.need Tt (.pre 15501 Q120)
 (.lt (.app 15501 Q120 0) 3
 (.need Tt (.c (.bin .le (.psel 0 V0) (.n 140737488355328)))
 (.need Tt (.pre 15504 Q24)
 (.lt (.app 15504 Q24 0) 7
 (.ite (.bin .eq V9 N0)
   .bad
 (.ret (.cons V14 (.cons Tt .nil))))))))))))))))
theorem e55 : (fnVT Tryd.prog (sgOf sg55) (ltOf lt55) S55 Tryd.f55 c55).slim (S55.ps.map fun p => p.2.length).sum [] = vt55 := by kernel_rfl
def S75 : Sig := ⟨[(false, [(.pn [i6, Ty2, Ty6])])], [(false, [(.osl 3 [i6])])], [], none⟩
noncomputable def c75 : Code := Tryd.f75.body.getD .skip
theorem b75 : Tryd.f75.body = some c75 := body_some (by kernel_rfl)
theorem n75 : (Tryd.f75.name == "runtime.NumGoroutine") = false := by kernel_rfl
def sg75 : List (FuncId × Sig) := []
def L75_0 : LoopSig := ⟨17500, [],
  ⟨[.any, .any, .any, (.c (.row 0 1)), ] ++ an 12 ++ [(.c (.x Ty2 V0)), (.c (.x i6 V1)), (.c (.x i6 V2)), ] ++ an 22 ++ [.any],
  [some ⟨Tt, (.row 3 [i6] V3 1 false)⟩]⟩,
  4, [2, 3], ([19, 20, 21, 5] ++ rg 22 19 ++ [18]), [(.exit 0)], []⟩
def lt75 : List (Nat × LoopSig) := [(3, L75_0)]
theorem k75 : (Code.loops c75).length = 1 := by kernel_rfl
noncomputable def lb75_0 : Code := (Code.loops c75).getD 0 .skip
def rt75_0 : VT :=
 (.ite (.bin .lt V2 V1)
 (.need Tt (.c (.bin .le N0 V2))
 (.need Tt (.c Q246)
 (.need Tt (.c (.bin .le N0 (.sel 1 V0 V2)))
 (.need Tt (.c (.bin .lt (.sel 1 V0 V2) (.un .len V3)))
 (.need Tt (.c Q238)
 (.need Tt (.c (.bin .lt (.sel 0 V0 V2) (.un .len Q48)))
 (.ret (.cons (.n (-1)) (.cons Q236 (.cons (.upd 0 Q48 (.sel 0 V0 V2) (.cons (.bin (.sub .i64) (.sel 0 Q48 (.sel 0 V0 V2)) (.sel 3 V0 V2)) .nil)) .nil))))))))))
 (.ret Q200))
theorem le75_0 : (loopVT Tryd.prog (sgOf sg75) (ltOf lt75) L75_0 lb75_0).slim L75_0.nv [] = rt75_0 := by kernel_rfl
theorem lf75_0 : (firstRegion lb75_0).bind (ltOf lt75) = some L75_0 := by kernel_rfl
theorem lk75_0 : (Code.loops lb75_0).length = 0 := by kernel_rfl
def vt75 : VT :=
 (.need Tt (.c (.un (.pnn 3) V0))
 (.need Tt (.c Q269)
 (.need Tt (.c Q155)
 (.need Tt (.pre 17500 Q38)
 (.lt (.app 17500 Q38 0) 3
 (.ret (.cons V3 .nil)))))))
theorem e75 : (fnVT Tryd.prog (sgOf sg75) (ltOf lt75) S75 Tryd.f75 c75).slim (S75.ps.map fun p => p.2.length).sum [] = vt75 := by kernel_rfl
def S35 : Sig := ⟨[(true, [i6, Ty2])], [(false, [Ty6]), (false, [Ty6]), (false, [i6])], [], none⟩
noncomputable def c35 : Code := Tryd.f35.body.getD .skip
theorem b35 : Tryd.f35.body = some c35 := body_some (by kernel_rfl)
theorem n35 : (Tryd.f35.name == "runtime.NumGoroutine") = false := by kernel_rfl
def P35_0 : LoopSig := ⟨64076000, [],
  ⟨[(.c (.ptr 2 0)), (.c (.row 5 1)), (.c (.x i6 V5)), (.c (.row 3 1)), ] ++ an 100 ++ [.any],
  [none, some ⟨Tt, (.row 3 [i6] V0 1 false)⟩, some ⟨Tt, (.box 90 [(.x i6 V1), (.x Ty2 V2), (.row 1 1)] false)⟩, some ⟨Tt, (.row 3 [i6] V3 1 false)⟩, none, some ⟨Tt, (.row 98 [i6, i6, i6, i6, i6, .bool, .bool] V4 1 false)⟩]⟩,
  6, [0], (rg 0 105), [], []⟩
def P35_1 : LoopSig := ⟨42057000, [],
  ⟨[(.c (.ptr 2 0)), ] ++ an 94 ++ [.any],
  [none, some ⟨Tt, (.row 3 [i6] V0 1 false)⟩, some ⟨Tt, (.box 90 [(.x i6 V1), (.x Ty2 V2), (.row 1 1)] false)⟩]⟩,
  3, [0], (rg 0 96), [], []⟩
def Sp35_76 : Sig := ⟨[(false, []), (false, []), (false, []), (false, [])], [(false, [i6]), (false, [i6])], [(P35_0, 5)], none⟩
def Sp35_57 : Sig := ⟨[(false, [])], [], [(P35_1, 3)], none⟩
def sg35 : List (FuncId × Sig) := [(36, S36), (56, S56), (55, S55), (57, Sp35_57), (42057000, ⟨[], [], [], some 2⟩)]
noncomputable def cp35_0 : Code := Tryd.f76.body.getD .skip
theorem bp35_0 : Tryd.f76.body = some cp35_0 := body_some (by kernel_rfl)
theorem np35_0 : (Tryd.f76.name == "runtime.NumGoroutine") = false := by kernel_rfl
def sgp35_0 : List (FuncId × Sig) := []
def Lp35_0_0 : LoopSig := ⟨17650, [],
  ⟨[(.c (.ptr 2 0)), (.c (.row 5 1)), ] ++ an 8 ++ [(.c (.x i6 V0)), (.c (.x i6 V1)), (.c (.x i6 V2)), ] ++ an 91 ++ [.any],
  [none, some ⟨Tt, (.row 3 [i6] V3 1 false)⟩, some ⟨Tt, (.box 90 [(.x i6 V4), (.x Ty2 V5), (.row 1 1)] false)⟩, none, none, some ⟨Tt, (.row 98 [i6, i6, i6, i6, i6, .bool, .bool] V6 1 false)⟩]⟩,
  7, [0, 1, 2], (rg 22 6 ++ [33, 34, 35, 36, 37, 13] ++ rg 38 12 ++ [11, 50, 51, 52, 53, 54, 10, 28, 29, 30, 31, 32, 12]), [(.exit 0)], []⟩
def Lp35_0_1 : LoopSig := ⟨17651, [],
  ⟨[(.c (.ptr 2 0)), (.c (.row 5 1)), ] ++ an 9 ++ [(.c (.x i6 V0)), .any, .any, (.c (.x i6 V1)), ] ++ an 89 ++ [.any],
  [none, some ⟨Tt, (.row 3 [i6] V2 1 false)⟩, some ⟨Tt, (.box 90 [(.x i6 V3), (.x Ty2 V4), (.row 1 1)] false)⟩, none, none, some ⟨Tt, (.row 98 [i6, i6, i6, i6, i6, .bool, .bool] V5 1 false)⟩]⟩,
  6, [1, 2], (rg 63 6 ++ [74, 75, 76, 77, 78, 15] ++ rg 79 24 ++ [69, 70, 71, 72, 73, 14]), [(.exit 2)], []⟩
def ltp35_0 : List (Nat × LoopSig) := [(4, Lp35_0_0), (12, Lp35_0_1)]
theorem kp35_0 : (Code.loops cp35_0).length = 2 := by kernel_rfl
noncomputable def lbp35_0_0 : Code := (Code.loops cp35_0).getD 0 .skip
noncomputable def lbp35_0_1 : Code := (Code.loops cp35_0).getD 1 .skip
def rtp35_0_0 : VT :=
 (.need Tt (.c (.bin .le N0 V2))
 (.need Tt (.c (.bin .lt V2 (.un .len V6)))
 (.ite (.un .not (.sel 6 V6 V2))
 (.ite (.sel 5 V6 V2)
 (.need Tt (.c (.bin .le N0 (.sel 4 V6 V2)))
 (.need Tt (.c (.bin .lt (.sel 4 V6 V2) (.un .len V3)))
 (.ret (.cons (.n (-1)) (.cons (.sel 1 V6 V2) (.cons (.bin .min V1 (.sel 0 V3 (.sel 4 V6 V2))) (.cons (.sel 1 V6 V2) .nil)))))))
 (.ret (.cons (.n (-1)) (.cons (.sel 1 V6 V2) (.cons V1 (.cons (.sel 1 V6 V2) .nil))))))
 (.ret (.cons N0 Q204)))))
theorem lep35_0_0 : (loopVT Tryd.prog (sgOf sgp35_0) (ltOf ltp35_0) Lp35_0_0 lbp35_0_0).slim Lp35_0_0.nv [] = rtp35_0_0 := by kernel_rfl
theorem lfp35_0_0 : (firstRegion lbp35_0_0).bind (ltOf ltp35_0) = some Lp35_0_0 := by kernel_rfl
theorem lkp35_0_0 : (Code.loops lbp35_0_0).length = 0 := by kernel_rfl
def rtp35_0_1 : VT :=
 (.need Tt (.c (.bin .le N0 V1))
 (.need Tt (.c Q244)
 (.ite (.un .not (.sel 6 V5 V1))
 (.ite (.sel 5 V5 V1)
 (.need Tt (.c (.bin .le N0 (.sel 4 V5 V1)))
 (.need Tt (.c Q183)
 (.ret (.cons (.n (-1)) (.cons (.sel 1 V5 V1) (.cons (.upd 0 V2 (.sel 4 V5 V1) (.cons (.bin (.sub .i64) (.sel 0 V2 (.sel 4 V5 V1)) V0) .nil)) .nil))))))
 (.need Tt (.c (.bin .le N0 (.sel 4 V5 V1)))
 (.need Tt (.c Q183)
 (.ret (.cons (.n (-1)) (.cons (.sel 1 V5 V1) (.cons (.upd 0 V2 (.sel 4 V5 V1) (.cons (.bin (.add .i64) (.sel 0 V2 (.sel 4 V5 V1)) V0) .nil)) .nil)))))))
 (.ret Q198))))
theorem lep35_0_1 : (loopVT Tryd.prog (sgOf sgp35_0) (ltOf ltp35_0) Lp35_0_1 lbp35_0_1).slim Lp35_0_1.nv [] = rtp35_0_1 := by kernel_rfl
theorem lfp35_0_1 : (firstRegion lbp35_0_1).bind (ltOf ltp35_0) = some Lp35_0_1 := by kernel_rfl
theorem lkp35_0_1 : (Code.loops lbp35_0_1).length = 0 := by kernel_rfl
def pv35_0 : VT :=
 (.need Tt (.c (.bin .le N0 V5))
 (.need Tt (.c (.bin .lt V5 (.un .len V3)))
 (.need Tt (.pre 17650 Q52)
 (.lt (.app 17650 Q52 0) 4
 (.need Tt (.c (.bin .le N0 V7))
 (.need Tt (.c (.bin .lt V7 (.un .len V3)))
 (.need Tt (.pre 17651 Q36)
 (.lt (.app 17651 Q36 0) 3
 (.ret (.cons N0 (.cons V12 (.cons V7 (.cons Q143 .nil)))))))))))))
theorem pe35_0 : (procVT Tryd.prog (sgOf sgp35_0) (ltOf ltp35_0) Sp35_76 P35_0 5 Tryd.f76 cp35_0).slim P35_0.nv [] = pv35_0 := by kernel_rfl
theorem pp35_0 : P35_0.head.plain = true := by kernel_rfl
theorem pl35_0 : P35_0.head.slots.length = Tryd.f76.ntmps := by kernel_rfl
noncomputable def cp35_1 : Code := Tryd.f57.body.getD .skip
theorem bp35_1 : Tryd.f57.body = some cp35_1 := body_some (by kernel_rfl)
theorem np35_1 : (Tryd.f57.name == "runtime.NumGoroutine") = false := by kernel_rfl
def sgp35_1 : List (FuncId × Sig) := [(75, S75), (55, S55), (76, Sp35_76), (64076000, ⟨[], [], [], some 4⟩)]
def Lp35_1_0 : LoopSig := ⟨15752, [],
  ⟨[(.c (.ptr 2 0)), .any, (.c (.row 3 1)), ] ++ an 92 ++ [.any],
  [none, some ⟨Tt, (.row 3 [i6] V0 1 false)⟩, some ⟨Tt, (.box 90 [(.x i6 V1), (.x Ty2 V2), (.row 1 1)] false)⟩, some ⟨Tt, (.row 3 [i6] V3 1 false)⟩]⟩,
  4, [0, 3], ([3] ++ rg 15 7 ++ [4, 5] ++ rg 22 10 ++ [33, 34, 35, 32, 36, 37, 6, 7, 8] ++ rg 38 7 ++ [9, 10] ++ rg 45 29 ++ [75, 76, 77, 78, 79, 74, 80, 81, 11, 12] ++ rg 82 14), [.ret], []⟩
def Lp35_1_1 : LoopSig := ⟨15750, [(3, none, 3)],
  ⟨[.any, .any, .any, (.c (.row 4 1)), ] ++ an 11 ++ [(.c (.row 3 1)), (.c (.x i6 V0)), (.c (.x i6 V1)), ] ++ an 77 ++ [.any],
  [none, none, none, some ⟨Tt, (.row 3 [i6] V2 1 false)⟩, some ⟨Tt, (.row 3 [i6] V3 1 false)⟩]⟩,
  4, [1, 3], ([18, 19, 20, 21, 4, 5] ++ rg 22 6 ++ [3, 28, 17]), [(.exit 2)], [3]⟩
def Lp35_1_2 : LoopSig := ⟨15751, [],
  ⟨[] ++ an 6 ++ [(.c (.row 5 1)), .any, (.c (.x i6 V0)), ] ++ an 29 ++ [(.c (.row 3 1)), (.c (.x i6 V1)), (.c (.x i6 V2)), ] ++ an 54 ++ [.any],
  [none, none, none, some ⟨Tt, (.row 3 [i6] V3 1 false)⟩, none, some ⟨Tt, (.row 98 [i6, i6, i6, i6, i6, .bool, .bool] V4 1 false)⟩]⟩,
  5, [0, 2], ([41, 42, 43, 44, 9, 10] ++ rg 45 28 ++ [8, 73, 40]), [(.exit 4)], []⟩
def ltp35_1 : List (Nat × LoopSig) := [(1, Lp35_1_0), (3, Lp35_1_1), (12, Lp35_1_2)]
theorem kp35_1 : (Code.loops cp35_1).length = 3 := by kernel_rfl
noncomputable def lbp35_1_0 : Code := (Code.loops cp35_1).getD 0 .skip
noncomputable def lbp35_1_1 : Code := (Code.loops cp35_1).getD 1 .skip
noncomputable def lbp35_1_2 : Code := (Code.loops cp35_1).getD 2 .skip
def rtp35_1_0 : VT :=
 (.need Tt (.pre 15750 Q109)
 (.lt (.app 15750 Q109 0) 3
 (.ite (.bin .eq (.un .len V6) N0)
 (.ret (.cons N0 (.cons V0 (.cons V3 .nil))))
 (.need Tt (.pre 55 Q102)
 (.lt (.app 55 Q102 0) 2
 (.need Tt (.pre 15751 Q80)
 (.lt (.app 15751 Q80 0) 3
 (.need Tt (.pre 64076000 Q85)
 (.lt (.app 64076000 Q85 0) 4
 (.need Tt (.c (.bin .le N0 V14))
 (.need Tt (.c (.bin .lt V14 (.un .len V3)))
 (.need Tt (.c (.bin .le N0 V10))
 (.need Tt (.c (.bin .lt V10 (.un .len Q103)))
 (.ret (.cons (.n (-1)) (.cons V13 (.cons (.upd 0 Q103 V10 (.cons (.bin (.sub .i64) (.sel 0 Q103 V10) V15) .nil)) .nil)))))))))))))))))
theorem lep35_1_0 : (loopVT Tryd.prog (sgOf sgp35_1) (ltOf ltp35_1) Lp35_1_0 lbp35_1_0).slim Lp35_1_0.nv [] = rtp35_1_0 := by kernel_rfl
theorem lfp35_1_0 : (firstRegion lbp35_1_0).bind (ltOf ltp35_1) = some Lp35_1_0 := by kernel_rfl
theorem lkp35_1_0 : (Code.loops lbp35_1_0).length = 2 := by kernel_rfl
theorem lip35_1_0_0 : (Code.loops lbp35_1_0).getD 0 .skip = lbp35_1_1 := by kernel_rfl
theorem lip35_1_0_1 : (Code.loops lbp35_1_0).getD 1 .skip = lbp35_1_2 := by kernel_rfl
def rtp35_1_1 : VT :=
 (.ite (.bin .lt V1 V0)
 (.need Tt (.c (.bin .le N0 V1))
 (.need Tt (.c Q256)
 (.ite (.bin .lt (.sel 0 V2 V1) N0)
 (.need Tt (.c (.bin .le (.un .len Q152) (.n 17592186044416)))
 (.ret (.cons (.n (-1)) (.cons Q233 (.cons Q152 .nil)))))
 (.ret (.cons (.n (-1)) (.cons Q233 (.cons V3 .nil)))))))
 (.ret Q207))
theorem lep35_1_1 : (loopVT Tryd.prog (sgOf sgp35_1) (ltOf ltp35_1) Lp35_1_1 lbp35_1_1).slim Lp35_1_1.nv [] = rtp35_1_1 := by kernel_rfl
theorem lfp35_1_1 : (firstRegion lbp35_1_1).bind (ltOf ltp35_1) = some Lp35_1_1 := by kernel_rfl
theorem lkp35_1_1 : (Code.loops lbp35_1_1).length = 0 := by kernel_rfl
def rtp35_1_2 : VT :=
 (.ite (.bin .lt V2 V1)
 (.need Tt (.c (.bin .le N0 V2))
 (.need Tt (.c (.bin .lt V2 (.un .len V3)))
 (.need Q240 (.c (.bin .lt V2 (.un .len V4)))
 (.need (.ite (.ite Q240 Q130 (.t false)) Q259 (.t false)) (.c (.bin .lt V2 (.un .len V4)))
 (.need (.ite (.ite Q240 Q130 (.t false)) Q259 (.t false)) (.c (.bin .le N0 V0))
 (.need (.ite (.ite Q240 Q130 (.t false)) Q259 (.t false)) (.c Q258)
 (.ite (.ite (.ite Q240 Q130 (.t false)) (.ite (.bin .lt V0 N0) Tt (.bin .lt (.sel 0 V4 V0) (.sel 0 V4 V2))) (.t false))
 (.ret (.cons (.n (-1)) (.cons V2 Q161)))
 (.ret Q97))))))))
 (.ret (.cons N0 (.cons V0 (.cons V2 .nil)))))
theorem lep35_1_2 : (loopVT Tryd.prog (sgOf sgp35_1) (ltOf ltp35_1) Lp35_1_2 lbp35_1_2).slim Lp35_1_2.nv [] = rtp35_1_2 := by kernel_rfl
theorem lfp35_1_2 : (firstRegion lbp35_1_2).bind (ltOf ltp35_1) = some Lp35_1_2 := by kernel_rfl
theorem lkp35_1_2 : (Code.loops lbp35_1_2).length = 0 := by kernel_rfl
def pv35_1 : VT :=
 (.need Tt (.pre 75 Q123)
 (.lt (.app 75 Q123 0) 1
 (.need Tt (.pre 15752 Q142)
 (.lt (.app 15752 Q142 0) 3
 (.ret (.cons N0 (.cons V5 .nil)))))))
theorem pe35_1 : (procVT Tryd.prog (sgOf sgp35_1) (ltOf ltp35_1) Sp35_57 P35_1 3 Tryd.f57 cp35_1).slim P35_1.nv [] = pv35_1 := by kernel_rfl
theorem pp35_1 : P35_1.head.plain = true := by kernel_rfl
theorem pl35_1 : P35_1.head.slots.length = Tryd.f57.ntmps := by kernel_rfl
def L35_0 : LoopSig := ⟨13500, [],
  ⟨[] ++ an 8 ++ [(.c (.row 6 1)), .any, (.c (.row 7 1)), ] ++ an 33 ++ [(.c (.x i6 V0)), (.c (.x i6 V1)), ] ++ an 15 ++ [.any],
  [none, none, none, none, none, none, some ⟨Tt, (.row 98 [i6, i6, i6, i6, i6, .bool, .bool] V2 1 false)⟩, some ⟨Tt, (.row 3 [i6] V3 1 false)⟩]⟩,
  4, [1, 3], ([46, 47, 11] ++ rg 48 9 ++ [45]), [(.exit 0)], []⟩
def lt35 : List (Nat × LoopSig) := [(11, L35_0)]
theorem k35 : (Code.loops c35).length = 1 := by kernel_rfl
noncomputable def lb35_0 : Code := (Code.loops c35).getD 0 .skip
def rt35_0 : VT :=
 (.ite (.bin .lt V1 V0)
 (.need Tt (.c (.bin .le N0 V1))
 (.need Tt (.c Q256)
 (.need Tt (.c Q260)
 (.ret (.cons (.n (-1)) (.cons Q233 (.cons (.upd 0 V3 V1 (.cons (.sel 0 V2 V1) .nil)) .nil)))))))
 (.ret Q207))
theorem le35_0 : (loopVT Tryd.prog (sgOf sg35) (ltOf lt35) L35_0 lb35_0).slim L35_0.nv [] = rt35_0 := by kernel_rfl
theorem lf35_0 : (firstRegion lb35_0).bind (ltOf lt35) = some L35_0 := by kernel_rfl
theorem lk35_0 : (Code.loops lb35_0).length = 0 := by kernel_rfl
def vt35 : VT :=
 (.need Tt (.pre 36 Q261)
 (.lt Q189 1
 (.ite (.un .not V2)
 (.ret (.cons .lnil Q221))
 (.need Tt (.c (.bin .le (.un .len V1) (.n 17592186044416)))
 (.need Tt (.pre 56 Q57)
 (.lt (.app 56 Q57 0) 1
 (.need Tt (.pre 55 Q46)
 (.lt (.app 55 Q46 0) 2
 (.ite (.un .not V5)
 (.ret (.cons .lnil (.cons .lnil (.cons (.n 9) .nil))))
 (.need Tt (.pre 42057000 Q86)
 (.lt (.app 42057000 Q86 0) 2
 (.need Tt (.pre 56 Q124)
 (.lt (.app 56 Q124 0) 1
 (.need Tt (.pre 55 Q104)
 (.lt (.app 55 Q104 0) 2
 (.need Tt (.c (.bin .le N0 V0))
 (.need Tt (.c Q223)
 (.need Tt (.pre 13500 Q42)
 (.lt (.app 13500 Q42 0) 3
 (.ret (.cons V13 (.cons V7 (.cons N0 .nil)))))))))))))))))))))))
theorem e35 : (fnVT Tryd.prog (sgOf sg35) (ltOf lt35) S35 Tryd.f35 c35).slim (S35.ps.map fun p => p.2.length).sum [] = vt35 := by kernel_rfl
def S19 : Sig := ⟨[(true, [i6, Ty5, Ty6]), (true, [.str, .bool, Ty0, Ty1, Ty4])], [(false, [Ty6]), (false, [Ty6]), (false, [i6])], [], none⟩
noncomputable def c19 : Code := Tryd.f19.body.getD .skip
theorem b19 : Tryd.f19.body = some c19 := body_some (by kernel_rfl)
theorem n19 : (Tryd.f19.name == "runtime.NumGoroutine") = false := by kernel_rfl
def sg19 : List (FuncId × Sig) := [(35, S35)]
def L19_0 : LoopSig := ⟨11900, [(2, some 1, 38)],
  ⟨[.any, .any, (.c (.ptr 0 0)), (.c (.ptr 1 0)), .any, .any, .any, (.c (.ptr 2 0)), ] ++ an 9 ++ [(.c (.x Ty5 V0)), (.c (.x i6 V1)), (.c (.x i6 V2)), ] ++ an 32 ++ [.any],
  [some ⟨Tt, (.box 64 [(.x i6 V3), (.x Ty5 V4), (.x Ty6 V5)] false)⟩, some ⟨Tt, (.box 26 [(.x .str V6), (.x .bool V7), (.x Ty0 V8), (.x Ty1 V9), (.x Ty4 V10)] false)⟩, some ⟨Tt, (.box 35 [(.x i6 V11), (.row 3 1)] false)⟩, some ⟨Tt, (.row 38 [i6, i6, i6, i6] V12 1 false)⟩]⟩,
  13, [2, 12], ([20, 21, 22, 23, 9, 8] ++ rg 24 9 ++ [10] ++ rg 33 15 ++ [19]), [(.exit 0)], [12]⟩
def lt19 : List (Nat × LoopSig) := [(3, L19_0)]
theorem k19 : (Code.loops c19).length = 1 := by kernel_rfl
noncomputable def lb19_0 : Code := (Code.loops c19).getD 0 .skip
def rt19_0 : VT :=
 (.ite (.bin .lt V2 V1)
 (.need Tt (.c (.bin .le N0 V2))
 (.need Tt (.c Q246)
 (.need Tt (.c (.bin .lt V2 (.un .len V5)))
 (.need Tt (.c (.bin .le N0 (.sel 0 V5 V2)))
 (.need Tt (.c (.bin .lt (.sel 0 V5 V2) (.un .len V9)))
 (.need Tt (.c (.bin .le (.un .len Q21) (.n 4398046511104)))
 (.ret (.cons (.n (-1)) (.cons Q236 (.cons Q21 .nil))))))))))
 (.ret (.cons N0 (.cons V2 (.cons V12 .nil)))))
theorem le19_0 : (loopVT Tryd.prog (sgOf sg19) (ltOf lt19) L19_0 lb19_0).slim L19_0.nv [] = rt19_0 := by kernel_rfl
theorem lf19_0 : (firstRegion lb19_0).bind (ltOf lt19) = some L19_0 := by kernel_rfl
theorem lk19_0 : (Code.loops lb19_0).length = 0 := by kernel_rfl
def vt19 : VT :=
 (.need Tt (.pre 11900 Q18)
 (.lt (.app 11900 Q18 0) 3
 (.need Tt (.pre 35 (.cons V0 (.cons V10 .nil)))
 (.lt (.app 35 (.cons V0 (.cons V10 .nil)) 0) 3
 (.ret (.cons V11 (.cons V12 (.cons V13 .nil))))))))
theorem e19 : (fnVT Tryd.prog (sgOf sg19) (ltOf lt19) S19 Tryd.f19 c19).slim (S19.ps.map fun p => p.2.length).sum [] = vt19 := by kernel_rfl
def S8 : Sig := ⟨[(true, [.str, .bool, Ty0, Ty1, Ty4])], [(false, [Ty6]), (false, [Ty6]), (false, [i6])], [], none⟩
noncomputable def c8 : Code := Tryd.f8.body.getD .skip
theorem b8 : Tryd.f8.body = some c8 := body_some (by kernel_rfl)
theorem n8 : (Tryd.f8.name == "runtime.NumGoroutine") = false := by kernel_rfl
def sg8 : List (FuncId × Sig) := [(17, S17), (18, S18), (19, S19)]
def L8_0 : LoopSig := ⟨10800, [],
  ⟨[] ++ an 8 ++ [(.c (.x Ty6 V0)), .any, (.c (.row 2 1)), ] ++ an 24 ++ [(.c (.x Ty6 V1)), (.c (.x i6 V2)), (.c (.x i6 V3)), ] ++ an 13 ++ [.any],
  [none, none, some ⟨Tt, (.row 3 [i6] V4 1 false)⟩]⟩,
  5, [3, 4], ([38, 39, 40, 41, 11, 12] ++ rg 42 8 ++ [37]), [(.exit 0)], []⟩
def lt8 : List (Nat × LoopSig) := [(10, L8_0)]
theorem k8 : (Code.loops c8).length = 1 := by kernel_rfl
noncomputable def lb8_0 : Code := (Code.loops c8).getD 0 .skip
def rt8_0 : VT :=
 (.ite (.bin .lt V3 V2)
 (.need Tt (.c (.bin .le N0 V3))
 (.need Tt (.c Q254)
 (.need Tt (.c Q247)
 (.need Tt (.c Q239)
 (.need Tt (.c Q180)
 (.ret (.cons (.n (-1)) (.cons Q237 (.cons (.upd 0 V4 (.sel 0 V1 V3) (.cons (.sel 0 V0 V3) .nil)) .nil)))))))))
 (.ret Q199))
theorem le8_0 : (loopVT Tryd.prog (sgOf sg8) (ltOf lt8) L8_0 lb8_0).slim L8_0.nv [] = rt8_0 := by kernel_rfl
theorem lf8_0 : (firstRegion lb8_0).bind (ltOf lt8) = some L8_0 := by kernel_rfl
theorem lk8_0 : (Code.loops lb8_0).length = 0 := by kernel_rfl
def vt8 : VT :=
 (.need Tt (.pre 17 Q113)
 (.lt (.app 17 Q113 0) 1
 (.ite (.un .not (.bin .eq V5 N0))
 (.ret (.cons .lnil (.cons .lnil (.cons V5 .nil))))
 (.need Tt (.pre 18 Q113)
 (.lt (.app 18 Q113 0) 3
 (.need Tt (.pre 19 Q55)
 (.lt (.app 19 Q55 0) 3
 (.ite (.un .not (.bin .eq V11 N0))
 (.ret (.cons .lnil (.cons .lnil (.cons V11 .nil))))
 (.need Tt (.c (.bin .le (.un .len V3) (.n 17592186044416)))
 (.need Tt (.pre 10800 Q43)
 (.lt (.app 10800 Q43 0) 3
 (.ret (.cons V9 (.cons V14 (.cons N0 .nil)))))))))))))))
theorem e8 : (fnVT Tryd.prog (sgOf sg8) (ltOf lt8) S8 Tryd.f8 c8).slim (S8.ps.map fun p => p.2.length).sum [] = vt8 := by kernel_rfl
def S15 : Sig := ⟨[(false, [Ty6]), (false, [Ty6])], [(false, [.bool])], [], none⟩
noncomputable def c15 : Code := Tryd.f15.body.getD .skip
theorem b15 : Tryd.f15.body = some c15 := body_some (by kernel_rfl)
theorem n15 : (Tryd.f15.name == "runtime.NumGoroutine") = false := by kernel_rfl
def sg15 : List (FuncId × Sig) := []
def L15_0 : LoopSig := ⟨11500, [],
  ⟨[(.c (.x Ty6 V0)), (.c (.x Ty6 V1)), .any, .any, (.c (.x .bool V2)), (.c (.x i6 V3)), ] ++ an 19 ++ [.any],
  []⟩,
  4, [2, 3], ([11, 12, 13, 14] ++ rg 17 9 ++ [4, 15, 16, 5]), [.ret, (.exit 0)], []⟩
def lt15 : List (Nat × LoopSig) := [(4, L15_0)]
theorem k15 : (Code.loops c15).length = 1 := by kernel_rfl
noncomputable def lb15_0 : Code := (Code.loops c15).getD 0 .skip
def rt15_0 : VT :=
 (.ite Q247
 (.need Tt (.c (.bin .le N0 V3))
 (.need Tt (.c Q254)
 (.ite Q135
 (.ret Q150)
 (.ret Q99))))
 (.ret Q168))
theorem le15_0 : (loopVT Tryd.prog (sgOf sg15) (ltOf lt15) L15_0 lb15_0).slim L15_0.nv [] = rt15_0 := by kernel_rfl
theorem lf15_0 : (firstRegion lb15_0).bind (ltOf lt15) = some L15_0 := by kernel_rfl
theorem lk15_0 : (Code.loops lb15_0).length = 0 := by kernel_rfl
def vt15 : VT :=
 (.ite Q138
 (.ret (.cons (.t false) .nil))
 (.need Tt (.pre 11500 Q125)
 (.lt (.app 11500 Q125 0) 3
 (.ite (.bin .eq V2 N0)
 (.ret (.cons V3 .nil))
 (.ret (.cons Tt .nil))))))
theorem e15 : (fnVT Tryd.prog (sgOf sg15) (ltOf lt15) S15 Tryd.f15 c15).slim (S15.ps.map fun p => p.2.length).sum [] = vt15 := by kernel_rfl
def S6 : Sig := ⟨[], [(false, [.bool])], [], none⟩
noncomputable def c6 : Code := Tryd.f6.body.getD .skip
theorem b6 : Tryd.f6.body = some c6 := body_some (by kernel_rfl)
theorem n6 : (Tryd.f6.name == "runtime.NumGoroutine") = false := by kernel_rfl
def sg6 : List (FuncId × Sig) := [(14, S14), (8, S8), (15, S15)]
def lt6 : List (Nat × LoopSig) := []
theorem k6 : (Code.loops c6).length = 0 := by kernel_rfl
def vt6 : VT :=
 (.need Tt (.pre 14 .nil)
 (.lt (.app 14 .nil 0) 5
 (.need Tt (.pre 8 Q113)
 (.lt Q100 3
 (.need Tt (.pre 15 Q39)
 (.lt (.app 15 Q39 0) 1
 (.ret (.cons (.ite V8 (.bin .eq V7 N0) (.t false)) .nil))))))))
theorem e6 : (fnVT Tryd.prog (sgOf sg6) (ltOf lt6) S6 Tryd.f6 c6).slim (S6.ps.map fun p => p.2.length).sum [] = vt6 := by kernel_rfl
def S28 : Sig := ⟨[(true, [.str, .bool, Ty0, Ty1, Ty4])], [(true, [i6, Ty5])], [], none⟩
noncomputable def c28 : Code := Tryd.f28.body.getD .skip
theorem b28 : Tryd.f28.body = some c28 := body_some (by kernel_rfl)
theorem n28 : (Tryd.f28.name == "runtime.NumGoroutine") = false := by kernel_rfl
def sg28 : List (FuncId × Sig) := []
def L28_0 : LoopSig := ⟨12800, [(1, some 1, 62), (2, some 1, 62)],
  ⟨[.any, (.c (.ptr 0 0)), .any, (.c (.ptr 2 0)), (.c (.x i6 V0)), ] ++ an 29 ++ [.any],
  [some ⟨Tt, (.box 26 [(.x .str V1), (.x .bool V2), (.x Ty0 V3), (.x Ty1 V4), (.x Ty4 V5)] false)⟩, none, some ⟨Tt, (.box 58 [(.x i6 V6), (.row 4 1)] false)⟩, none, some ⟨Tt, (.row 62 [i6, i6] V7 1 false)⟩]⟩,
  8, [0, 7], ([9, 10, 11, 12, 13] ++ rg 16 18 ++ [14, 15, 4]), [(.exit 0)], [7]⟩
def lt28 : List (Nat × LoopSig) := [(3, L28_0)]
theorem k28 : (Code.loops c28).length = 1 := by kernel_rfl
noncomputable def lb28_0 : Code := (Code.loops c28).getD 0 .skip
def rt28_0 : VT :=
 (.ite Q258
 (.need Tt (.c (.bin .le N0 V0))
 (.need Tt (.c (.bin .le (.un .len Q78) (.n 8796093022208)))
 (.ret (.cons (.n (-1)) (.cons Q241 (.cons Q78 .nil))))))
 (.ret (.cons N0 (.cons V0 (.cons V7 .nil)))))
theorem le28_0 : (loopVT Tryd.prog (sgOf sg28) (ltOf lt28) L28_0 lb28_0).slim L28_0.nv [] = rt28_0 := by kernel_rfl
theorem lf28_0 : (firstRegion lb28_0).bind (ltOf lt28) = some L28_0 := by kernel_rfl
theorem lk28_0 : (Code.loops lb28_0).length = 0 := by kernel_rfl
def vt28 : VT :=
 (.need Tt (.pre 12800 Q41)
 (.lt (.app 12800 Q41 0) 3
 (.ret Q197)))
theorem e28 : (fnVT Tryd.prog (sgOf sg28) (ltOf lt28) S28 Tryd.f28 c28).slim (S28.ps.map fun p => p.2.length).sum [] = vt28 := by kernel_rfl
def S39 : Sig := ⟨[(true, [i6, Ty5])], [(false, [.bool])], [], none⟩
noncomputable def c39 : Code := Tryd.f39.body.getD .skip
theorem b39 : Tryd.f39.body = some c39 := body_some (by kernel_rfl)
theorem n39 : (Tryd.f39.name == "runtime.NumGoroutine") = false := by kernel_rfl
def sg39 : List (FuncId × Sig) := []
def L39_0 : LoopSig := ⟨13900, [],
  ⟨[.any, (.c (.ptr 0 0)), (.c (.x .bool V0)), (.c (.x i6 V1)), ] ++ an 48 ++ [.any],
  [some ⟨Tt, (.box 58 [(.x i6 V2), (.x Ty5 V3)] false)⟩]⟩,
  4, [0, 1], ([19, 20, 21, 22, 23, 26, 27, 28, 29, 30, 4] ++ rg 31 22 ++ [2, 24, 25, 3]), [.ret, (.exit 0)], []⟩
def lt39 : List (Nat × LoopSig) := [(4, L39_0)]
theorem k39 : (Code.loops c39).length = 1 := by kernel_rfl
noncomputable def lb39_0 : Code := (Code.loops c39).getD 0 .skip
def rt39_0 : VT :=
 (.ite Q260
 (.need Tt (.c (.bin .le N0 V1))
 (.ite (.ite (.ite (.ite (.bin .lt (.sel 0 V3 V1) N0) Tt (.bin .le V2 (.sel 0 V3 V1))) Tt (.bin .lt (.sel 1 V3 V1) N0)) Tt (.bin .le V2 (.sel 1 V3 V1)))
 (.ret Q145)
 (.ret Q87)))
 (.ret Q160))
theorem le39_0 : (loopVT Tryd.prog (sgOf sg39) (ltOf lt39) L39_0 lb39_0).slim L39_0.nv [] = rt39_0 := by kernel_rfl
theorem lf39_0 : (firstRegion lb39_0).bind (ltOf lt39) = some L39_0 := by kernel_rfl
theorem lk39_0 : (Code.loops lb39_0).length = 0 := by kernel_rfl
def vt39 : VT :=
 (.ite (.ite (.ite (.bin .lt V0 N0) Tt (.bin .lt (.n 64) V0)) Tt Q219)
 (.ret (.cons (.t false) .nil))
 (.need Tt (.pre 13900 Q126)
 (.lt (.app 13900 Q126 0) 3
 (.ite (.bin .eq V2 N0)
 (.ret (.cons V3 .nil))
 (.ret (.cons Tt .nil))))))
theorem e39 : (fnVT Tryd.prog (sgOf sg39) (ltOf lt39) S39 Tryd.f39 c39).slim (S39.ps.map fun p => p.2.length).sum [] = vt39 := by kernel_rfl
def S59 : Sig := ⟨[(true, [i6, Ty5]), (false, [Ty6])], [(false, [Ty6])], [], none⟩
noncomputable def c59 : Code := Tryd.f59.body.getD .skip
theorem b59 : Tryd.f59.body = some c59 := body_some (by kernel_rfl)
theorem n59 : (Tryd.f59.name == "runtime.NumGoroutine") = false := by kernel_rfl
def sg59 : List (FuncId × Sig) := []
def L59_0 : LoopSig := ⟨15900, [],
  ⟨[.any, (.c (.x Ty6 V0)), .any, .any, .any, (.c (.row 1 1)), (.c (.x i6 V1)), ] ++ an 49 ++ [.any],
  [none, some ⟨Tt, (.row 3 [i6] V2 1 false)⟩]⟩,
  3, [1, 2], ([12, 13, 14, 15] ++ rg 18 7 ++ [16, 17, 6]), [(.exit 0)], []⟩
def L59_1 : LoopSig := ⟨15901, [],
  ⟨[.any, .any, (.c (.ptr 0 0)), .any, .any, (.c (.row 1 1)), .any, (.c (.row 2 1)), (.c (.x i6 V0)), ] ++ an 47 ++ [.any],
  [some ⟨Tt, (.box 58 [(.x i6 V1), (.x Ty5 V2)] false)⟩, some ⟨Tt, (.row 3 [i6] V3 1 false)⟩, some ⟨Tt, (.row 3 [i6] V4 1 false)⟩]⟩,
  5, [0, 4], ([26, 27, 28, 29, 30] ++ rg 33 23 ++ [7, 31, 32, 8]), [(.exit 2)], [4]⟩
def lt59 : List (Nat × LoopSig) := [(3, L59_0), (8, L59_1)]
theorem k59 : (Code.loops c59).length = 2 := by kernel_rfl
noncomputable def lb59_0 : Code := (Code.loops c59).getD 0 .skip
noncomputable def lb59_1 : Code := (Code.loops c59).getD 1 .skip
def rt59_0 : VT :=
 (.ite Q257
 (.need Tt (.c (.bin .le N0 V1))
 (.need Tt (.c Q242)
 (.need Tt (.c (.bin .lt (.sel 0 V0 V1) (.un .len V2)))
 (.ret (.cons (.n (-1)) (.cons Q233 (.cons (.upd 0 V2 (.sel 0 V0 V1) (.cons V1 .nil)) .nil)))))))
 (.ret Q198))
theorem le59_0 : (loopVT Tryd.prog (sgOf sg59) (ltOf lt59) L59_0 lb59_0).slim L59_0.nv [] = rt59_0 := by kernel_rfl
theorem lf59_0 : (firstRegion lb59_0).bind (ltOf lt59) = some L59_0 := by kernel_rfl
theorem lk59_0 : (Code.loops lb59_0).length = 0 := by kernel_rfl
def rt59_1 : VT :=
 (.ite (.bin .lt V0 (.un .len V2))
 (.need Tt (.c (.bin .le N0 V0))
 (.need Tt (.c (.bin .le N0 (.sel 0 V2 V0)))
 (.need Tt (.c (.bin .lt (.sel 0 V2 V0) (.un .len V3)))
 (.need Tt (.c (.bin .le N0 (.sel 1 V2 V0)))
 (.need Tt (.c (.bin .lt (.sel 1 V2 V0) (.un .len V3)))
 (.ite (.bin .lt (.sel 0 V3 (.sel 1 V2 V0)) (.sel 0 V3 (.sel 0 V2 V0)))
 (.need Tt (.c Q60)
 (.ret (.cons (.n (-1)) (.cons Q241 (.cons Q153 .nil)))))
 (.ret (.cons (.n (-1)) (.cons Q241 (.cons V4 .nil))))))))))
 (.ret (.cons N0 (.cons V0 (.cons V4 .nil)))))
theorem le59_1 : (loopVT Tryd.prog (sgOf sg59) (ltOf lt59) L59_1 lb59_1).slim L59_1.nv [] = rt59_1 := by kernel_rfl
theorem lf59_1 : (firstRegion lb59_1).bind (ltOf lt59) = some L59_1 := by kernel_rfl
theorem lk59_1 : (Code.loops lb59_1).length = 0 := by kernel_rfl
def vt59 : VT :=
 (.need Tt (.c (.bin .le N0 V0))
 (.need Tt (.c Q223)
 (.need Tt (.pre 15900 Q112)
 (.lt (.app 15900 Q112 0) 3
 (.need Tt (.pre 15901 Q110)
 (.lt (.app 15901 Q110 0) 3
 (.ret (.cons V8 .nil))))))))
theorem e59 : (fnVT Tryd.prog (sgOf sg59) (ltOf lt59) S59 Tryd.f59 c59).slim (S59.ps.map fun p => p.2.length).sum [] = vt59 := by kernel_rfl
def S77 : Sig := ⟨[(false, [Ty6]), (false, [Ty6])], [(false, [.bool])], [], none⟩
noncomputable def c77 : Code := Tryd.f77.body.getD .skip
theorem b77 : Tryd.f77.body = some c77 := body_some (by kernel_rfl)
theorem n77 : (Tryd.f77.name == "runtime.NumGoroutine") = false := by kernel_rfl
def sg77 : List (FuncId × Sig) := []
def L77_0 : LoopSig := ⟨17700, [],
  ⟨[(.c (.x Ty6 V0)), (.c (.x Ty6 V1)), .any, .any, (.c (.x .bool V2)), (.c (.x i6 V3)), ] ++ an 33 ++ [.any],
  []⟩,
  4, [2, 3], ([16, 17, 18, 19] ++ rg 22 18 ++ [4, 20, 21, 5]), [.ret, (.exit 0)], []⟩
def lt77 : List (Nat × LoopSig) := [(4, L77_0)]
theorem k77 : (Code.loops c77).length = 1 := by kernel_rfl
noncomputable def lb77_0 : Code := (Code.loops c77).getD 0 .skip
def rt77_0 : VT :=
 (.ite Q247
 (.need Tt (.c (.bin .le N0 V3))
 (.need Tt (.c Q254)
 (.ite Q135
 (.ret (.cons N0 (.cons (.bin .lt (.sel 0 V0 V3) (.sel 0 V1 V3)) (.cons V3 .nil))))
 (.ret Q99))))
 (.ret Q168))
theorem le77_0 : (loopVT Tryd.prog (sgOf sg77) (ltOf lt77) L77_0 lb77_0).slim L77_0.nv [] = rt77_0 := by kernel_rfl
theorem lf77_0 : (firstRegion lb77_0).bind (ltOf lt77) = some L77_0 := by kernel_rfl
theorem lk77_0 : (Code.loops lb77_0).length = 0 := by kernel_rfl
def vt77 : VT :=
 (.ite Q138
 (.ret (.cons (.bin .lt (.un .len V0) (.un .len V1)) .nil))
 (.need Tt (.pre 17700 Q125)
 (.lt (.app 17700 Q125 0) 3
 (.ite (.bin .eq V2 N0)
 (.ret (.cons V3 .nil))
 (.ret (.cons (.t false) .nil))))))
theorem e77 : (fnVT Tryd.prog (sgOf sg77) (ltOf lt77) S77 Tryd.f77 c77).slim (S77.ps.map fun p => p.2.length).sum [] = vt77 := by kernel_rfl
def S58 : Sig := ⟨[(true, [i6, Ty5]), (false, [Ty6])], [(false, [Ty6])], [], none⟩
noncomputable def c58 : Code := Tryd.f58.body.getD .skip
theorem b58 : Tryd.f58.body = some c58 := body_some (by kernel_rfl)
theorem n58 : (Tryd.f58.name == "runtime.NumGoroutine") = false := by kernel_rfl
def sg58 : List (FuncId × Sig) := [(59, S59), (58, S58), (77, S77)]
def L58_0 : LoopSig := ⟨15801, [],
  ⟨[.any, (.c (.x Ty6 V0)), (.c (.ptr 0 0)), .any, .any, (.c (.x Ty6 V1)), (.c (.x .bool V2)), (.c (.x i6 V3)), ] ++ an 54 ++ [.any],
  [some ⟨Tt, (.box 58 [(.x i6 V4), (.x Ty5 V5)] false)⟩]⟩,
  6, [1, 2, 3], ([21, 22, 23, 24, 8, 9, 27, 28, 29, 30] ++ rg 33 9 ++ [31, 32, 42, 43, 44, 10] ++ rg 45 9 ++ [11] ++ rg 54 8 ++ [5, 6, 25, 26, 7]), [(.exit 0)], []⟩
def L58_1 : LoopSig := ⟨15800, [],
  ⟨[.any, (.c (.x Ty6 V0)), .any, .any, .any, .any, .any, (.c (.x i6 V1)), (.c (.x .bool V2)), (.c (.x i6 V3)), ] ++ an 52 ++ [.any],
  []⟩,
  4, [2, 3], ([27, 28, 29, 30] ++ rg 33 9 ++ [8, 31, 32, 9]), [(.exit 2)], []⟩
def lt58 : List (Nat × LoopSig) := [(6, L58_0), (10, L58_1)]
theorem k58 : (Code.loops c58).length = 2 := by kernel_rfl
noncomputable def lb58_0 : Code := (Code.loops c58).getD 0 .skip
noncomputable def lb58_1 : Code := (Code.loops c58).getD 1 .skip
def rt58_0 : VT :=
 (.ite (.bin .lt V3 V4)
 (.need Tt (.pre 15800 Q127)
 (.lt (.app 15800 Q127 0) 3
 (.ite (.un .not V7)
 (.need Tt (.c (.bin .le (.un .len (.bin .cat .lnil V0)) (.n 17592186044416)))
 (.need Tt (.c (.bin .le (.un .len Q108) (.n 17592186044416)))
 (.need Tt (.pre 58 Q50)
 (.lt (.app 58 Q50 0) 1
 (.need V2 (.pre 77 (.cons V9 (.cons V1 .nil)))
 (.lt (.app 77 (.cons V9 (.cons V1 .nil)) 0) 1
 (.ite (.ite (.un .not V2) Tt V10)
 (.ret (.cons (.n (-1)) (.cons V9 (.cons Tt Q163))))
 (.ret Q75))))))))
 (.ret Q75))))
 (.ret (.cons N0 Q208)))
theorem le58_0 : (loopVT Tryd.prog (sgOf sg58) (ltOf lt58) L58_0 lb58_0).slim L58_0.nv [] = rt58_0 := by kernel_rfl
theorem lf58_0 : (firstRegion lb58_0).bind (ltOf lt58) = some L58_0 := by kernel_rfl
theorem lk58_0 : (Code.loops lb58_0).length = 1 := by kernel_rfl
theorem li58_0_0 : (Code.loops lb58_0).getD 0 .skip = lb58_1 := by kernel_rfl
def rt58_1 : VT :=
 (.ite Q247
 (.need (.un .not V2) (.c (.bin .le N0 V3))
 (.ret (.cons (.n (-1)) (.cons (.ite V2 Tt (.bin .eq (.sel 0 V0 V3) V1)) Q163))))
 (.ret Q200))
theorem le58_1 : (loopVT Tryd.prog (sgOf sg58) (ltOf lt58) L58_1 lb58_1).slim L58_1.nv [] = rt58_1 := by kernel_rfl
theorem lf58_1 : (firstRegion lb58_1).bind (ltOf lt58) = some L58_1 := by kernel_rfl
theorem lk58_1 : (Code.loops lb58_1).length = 0 := by kernel_rfl
def vt58 : VT :=
 (.ite (.bin .eq (.un .len V2) V0)
 (.need Tt (.pre 59 Q204)
 (.lt (.app 59 Q204 0) 1
 (.ret (.cons V3 .nil))))
 (.need Tt (.pre 15801 Q76)
 (.lt (.app 15801 Q76 0) 4
 (.ret (.cons V4 .nil)))))
theorem e58 : (fnVT Tryd.prog (sgOf sg58) (ltOf lt58) S58 Tryd.f58 c58).slim (S58.ps.map fun p => p.2.length).sum [] = vt58 := by kernel_rfl
def S40 : Sig := ⟨[(true, [i6, Ty5])], [(false, [Ty6]), (false, [i6])], [], none⟩
noncomputable def c40 : Code := Tryd.f40.body.getD .skip
theorem b40 : Tryd.f40.body = some c40 := body_some (by kernel_rfl)
theorem n40 : (Tryd.f40.name == "runtime.NumGoroutine") = false := by kernel_rfl
def sg40 : List (FuncId × Sig) := [(39, S39), (58, S58)]
def lt40 : List (Nat × LoopSig) := []
theorem k40 : (Code.loops c40).length = 0 := by kernel_rfl
def vt40 : VT :=
 (.need Tt (.pre 39 Q261)
 (.lt Q190 1
 (.ite (.un .not V2)
 (.ret Q221)
 (.ite (.bin .lt (.n 8) V0)
 (.ret Q222)
 (.need Tt (.pre 58 Q173)
 (.lt (.app 58 Q173 0) 1
 (.ret (.cons V3 (.cons N0 .nil)))))))))
theorem e40 : (fnVT Tryd.prog (sgOf sg40) (ltOf lt40) S40 Tryd.f40 c40).slim (S40.ps.map fun p => p.2.length).sum [] = vt40 := by kernel_rfl
def S41 : Sig := ⟨[(true, [i6, Ty5])], [(false, [Ty6])], [], none⟩
noncomputable def c41 : Code := Tryd.f41.body.getD .skip
theorem b41 : Tryd.f41.body = some c41 := body_some (by kernel_rfl)
theorem n41 : (Tryd.f41.name == "runtime.NumGoroutine") = false := by kernel_rfl
def S42 : Sig := ⟨[(true, [i6, Ty5]), (false, [Ty6])], [(true, [i6, Ty5])], [], none⟩
noncomputable def c42 : Code := Tryd.f42.body.getD .skip
theorem b42 : Tryd.f42.body = some c42 := body_some (by kernel_rfl)
theorem n42 : (Tryd.f42.name == "runtime.NumGoroutine") = false := by kernel_rfl
def sg42 : List (FuncId × Sig) := []
def L42_0 : LoopSig := ⟨14200, [],
  ⟨[.any, (.c (.x Ty6 V0)), .any, .any, .any, (.c (.ptr 2 0)), (.c (.x i6 V1)), ] ++ an 36 ++ [.any],
  [none, none, some ⟨Tt, (.box 58 [(.x i6 V2), (.row 3 1)] false)⟩, some ⟨Tt, (.row 62 [i6, i6] V3 1 false)⟩]⟩,
  4, [1, 3], ([17, 18, 19, 20] ++ rg 23 8 ++ [7] ++ rg 31 12 ++ [21, 22, 6]), [(.exit 0)], []⟩
def lt42 : List (Nat × LoopSig) := [(4, L42_0)]
theorem k42 : (Code.loops c42).length = 1 := by kernel_rfl
noncomputable def lb42_0 : Code := (Code.loops c42).getD 0 .skip
def rt42_0 : VT :=
 (.ite Q257
 (.need Tt (.c (.bin .le N0 V1))
 (.need Tt (.c Q242)
 (.need Tt (.c (.bin .lt (.sel 0 V0 V1) (.un .len V3)))
 (.ret (.cons (.n (-1)) (.cons Q233 (.cons (.upd 0 V3 (.sel 0 V0 V1) (.cons (.sel 1 V3 (.sel 0 V0 V1)) (.cons (.sel 0 V3 (.sel 0 V0 V1)) .nil))) .nil)))))))
 (.ret Q207))
theorem le42_0 : (loopVT Tryd.prog (sgOf sg42) (ltOf lt42) L42_0 lb42_0).slim L42_0.nv [] = rt42_0 := by kernel_rfl
theorem lf42_0 : (firstRegion lb42_0).bind (ltOf lt42) = some L42_0 := by kernel_rfl
theorem lk42_0 : (Code.loops lb42_0).length = 0 := by kernel_rfl
def vt42 : VT :=
 (.need Tt (.c (.bin .le (.un .len V1) (.n 8796093022208)))
 (.need Tt (.pre 14200 Q106)
 (.lt (.app 14200 Q106 0) 3
 (.ret Q270))))
theorem e42 : (fnVT Tryd.prog (sgOf sg42) (ltOf lt42) S42 Tryd.f42 c42).slim (S42.ps.map fun p => p.2.length).sum [] = vt42 := by kernel_rfl
def S27 : Sig := ⟨[(true, [i6, Ty5])], [(false, [Ty6]), (true, [i6, Ty5])], [], none⟩
noncomputable def c27 : Code := Tryd.f27.body.getD .skip
theorem b27 : Tryd.f27.body = some c27 := body_some (by kernel_rfl)
theorem n27 : (Tryd.f27.name == "runtime.NumGoroutine") = false := by kernel_rfl
def sg27 : List (FuncId × Sig) := [(39, S39), (40, S40), (41, S41), (42, S42)]
def lt27 : List (Nat × LoopSig) := []
theorem k27 : (Code.loops c27).length = 0 := by kernel_rfl
def vt27 : VT :=
 (.need Tt (.pre 39 Q261)
 (.lt Q190 1
 (.ite (.un .not V2)
 (.ret Q154)
 (.need Tt (.pre 40 Q261)
 (.lt (.app 40 Q261 0) 2
 (.ite (.un .not (.bin .eq V4 N0))
 (.need Tt (.pre 41 Q261)
 (.lt (.app 41 Q261 0) 1
 (.need Tt (.pre 42 Q209)
 (.lt (.app 42 Q209 0) 2
 (.ret Q206)))))
 (.need Tt (.pre 42 Q210)
 (.lt (.app 42 Q210 0) 2
 (.ret (.cons V3 Q271))))))))))
theorem e27 : (fnVT Tryd.prog (sgOf sg27) (ltOf lt27) S27 Tryd.f27 c27).slim (S27.ps.map fun p => p.2.length).sum [] = vt27 := by kernel_rfl
def S16 : Sig := ⟨[(true, [.str, .bool, Ty0, Ty1, Ty4])], [(true, [i6, Ty5]), (false, [Ty6])], [], none⟩
noncomputable def c16 : Code := Tryd.f16.body.getD .skip
theorem b16 : Tryd.f16.body = some c16 := body_some (by kernel_rfl)
theorem n16 : (Tryd.f16.name == "runtime.NumGoroutine") = false := by kernel_rfl
def sg16 : List (FuncId × Sig) := [(28, S28), (27, S27)]
def L16_0 : LoopSig := ⟨11600, [(7, none, 3), (1, some 1, 62), (3, some 1, 62)],
  ⟨[.any, .any, .any, .any, .any, (.c (.ptr 2 0)), (.c (.ptr 3 0)), (.c (.row 4 1)), (.c (.x i6 V0)), ] ++ an 44 ++ [.any],
  [none, none, some ⟨Tt, (.box 58 [(.x i6 V1), (.x Ty5 V2)] false)⟩, some ⟨Tt, (.box 58 [(.x i6 V3), (.row 6 1)] false)⟩, some ⟨Tt, (.row 3 [i6] V4 1 false)⟩, none, some ⟨Tt, (.row 62 [i6, i6] V5 1 false)⟩]⟩,
  6, [0, 4, 5], ([18, 19, 20, 21, 22] ++ rg 25 27 ++ [7, 23, 24, 8]), [(.exit 0)], [4, 5]⟩
def lt16 : List (Nat × LoopSig) := [(5, L16_0)]
theorem k16 : (Code.loops c16).length = 1 := by kernel_rfl
noncomputable def lb16_0 : Code := (Code.loops c16).getD 0 .skip
def rt16_0 : VT :=
 (.ite (.bin .lt V0 (.un .len V2))
 (.need Tt (.c (.bin .le N0 V0))
 (.ite (.un .not (.bin .eq (.sel 0 V2 V0) (.sel 1 V2 V0)))
 (.need Tt (.c (.bin .le (.un .len Q79) (.n 8796093022208)))
 (.need Tt (.c Q60)
 (.ret (.cons (.n (-1)) (.cons Q241 (.cons Q153 (.cons Q79 .nil)))))))
 (.ret (.cons (.n (-1)) (.cons Q241 Q265)))))
 (.ret (.cons N0 (.cons V0 Q265))))
theorem le16_0 : (loopVT Tryd.prog (sgOf sg16) (ltOf lt16) L16_0 lb16_0).slim L16_0.nv [] = rt16_0 := by kernel_rfl
theorem lf16_0 : (firstRegion lb16_0).bind (ltOf lt16) = some L16_0 := by kernel_rfl
theorem lk16_0 : (Code.loops lb16_0).length = 0 := by kernel_rfl
def vt16 : VT :=
 (.need Tt (.pre 28 Q113)
 (.lt (.app 28 Q113 0) 2
 (.need Tt (.pre 27 Q271)
 (.lt (.app 27 Q271 0) 3
 (.need Tt (.pre 11600 Q82)
 (.lt (.app 11600 Q82 0) 4
 (.ret (.cons V8 (.cons V13 (.cons V12 .nil))))))))))
theorem e16 : (fnVT Tryd.prog (sgOf sg16) (ltOf lt16) S16 Tryd.f16 c16).slim (S16.ps.map fun p => p.2.length).sum [] = vt16 := by kernel_rfl
def S7 : Sig := ⟨[(true, [.str, .bool, Ty0, Ty1, Ty4])], [(true, [i6, Ty2])], [], none⟩
noncomputable def c7 : Code := Tryd.f7.body.getD .skip
theorem b7 : Tryd.f7.body = some c7 := body_some (by kernel_rfl)
theorem n7 : (Tryd.f7.name == "runtime.NumGoroutine") = false := by kernel_rfl
def sg7 : List (FuncId × Sig) := [(16, S16)]
def L7_0 : LoopSig := ⟨10700, [(1, some 1, 38), (3, some 1, 38)],
  ⟨[.any, (.c (.ptr 0 0)), .any, (.c (.ptr 2 0)), (.c (.x Ty6 V0)), (.c (.ptr 3 0)), (.c (.x i6 V1)), ] ++ an 45 ++ [.any],
  [some ⟨Tt, (.box 26 [(.x .str V2), (.x .bool V3), (.x Ty0 V4), (.x Ty1 V5), (.x Ty4 V6)] false)⟩, none, some ⟨Tt, (.box 58 [(.x i6 V7), (.x Ty5 V8)] false)⟩, some ⟨Tt, (.box 35 [(.x i6 V9), (.row 5 1)] false)⟩, none, some ⟨Tt, (.row 38 [i6, i6, i6, i6] V10 1 false)⟩]⟩,
  11, [1, 10], ([16, 17, 18, 19] ++ rg 22 8 ++ [7] ++ rg 30 22 ++ [20, 21, 6]), [(.exit 0)], [10]⟩
def lt7 : List (Nat × LoopSig) := [(4, L7_0)]
theorem k7 : (Code.loops c7).length = 1 := by kernel_rfl
noncomputable def lb7_0 : Code := (Code.loops c7).getD 0 .skip
def rt7_0 : VT :=
 (.ite Q257
 (.need Tt (.c (.bin .le N0 V1))
 (.need Tt (.c Q242)
 (.need Tt (.c (.bin .lt (.sel 0 V0 V1) (.un .len V5)))
 (.need Tt (.c (.bin .lt V1 (.un .len V8)))
 (.need Tt (.c (.bin .le (.un .len Q22) (.n 4398046511104)))
 (.ret (.cons (.n (-1)) (.cons Q233 (.cons Q22 .nil)))))))))
 (.ret (.cons N0 (.cons V1 (.cons V10 .nil)))))
theorem le7_0 : (loopVT Tryd.prog (sgOf sg7) (ltOf lt7) L7_0 lb7_0).slim L7_0.nv [] = rt7_0 := by kernel_rfl
theorem lf7_0 : (firstRegion lb7_0).bind (ltOf lt7) = some L7_0 := by kernel_rfl
theorem lk7_0 : (Code.loops lb7_0).length = 0 := by kernel_rfl
def vt7 : VT :=
 (.need Tt (.pre 16 Q113)
 (.lt (.app 16 Q113 0) 3
 (.need Tt (.pre 10700 Q29)
 (.lt (.app 10700 Q29 0) 3
 (.ret (.cons V5 (.cons V10 .nil)))))))
theorem e7 : (fnVT Tryd.prog (sgOf sg7) (ltOf lt7) S7 Tryd.f7 c7).slim (S7.ps.map fun p => p.2.length).sum [] = vt7 := by kernel_rfl
def S20 : Sig := ⟨[(true, [i6, Ty2]), (false, [Ty6])], [(false, [.bool])], [], none⟩
noncomputable def c20 : Code := Tryd.f20.body.getD .skip
theorem b20 : Tryd.f20.body = some c20 := body_some (by kernel_rfl)
theorem n20 : (Tryd.f20.name == "runtime.NumGoroutine") = false := by kernel_rfl
def sg20 : List (FuncId × Sig) := [(36, S36)]
def L20_0 : LoopSig := ⟨12000, [],
  ⟨[.any, .any, .any, .any, (.c (.x .bool V0)), ] ++ an 12 ++ [(.c (.x Ty6 V1)), (.c (.x i6 V2)), (.c (.x i6 V3)), ] ++ an 9 ++ [.any],
  []⟩,
  4, [0, 3], ([20, 21, 22, 6] ++ rg 23 6 ++ [4, 29, 19]), [.ret, (.exit 0)], []⟩
def lt20 : List (Nat × LoopSig) := [(4, L20_0)]
theorem k20 : (Code.loops c20).length = 1 := by kernel_rfl
noncomputable def lb20_0 : Code := (Code.loops c20).getD 0 .skip
def rt20_0 : VT :=
 (.ite (.bin .lt V3 V2)
 (.need Tt (.c (.bin .le N0 V3))
 (.need Tt (.c Q254)
 (.ite (.ite (.bin .lt (.sel 0 V1 V3) (.n (-34359738368))) Tt (.bin .lt (.n 34359738368) (.sel 0 V1 V3)))
 (.ret Q150)
 (.ret Q94))))
 (.ret Q166))
theorem le20_0 : (loopVT Tryd.prog (sgOf sg20) (ltOf lt20) L20_0 lb20_0).slim L20_0.nv [] = rt20_0 := by kernel_rfl
theorem lf20_0 : (firstRegion lb20_0).bind (ltOf lt20) = some L20_0 := by kernel_rfl
theorem lk20_0 : (Code.loops lb20_0).length = 0 := by kernel_rfl
def vt20 : VT :=
 (.need Tt (.pre 36 Q261)
 (.lt Q189 1
 (.ite (.ite (.un .not V3) Tt (.un .not (.bin .eq (.un .len V2) V0)))
 (.ret (.cons (.t false) .nil))
 (.need Tt (.pre 12000 Q105)
 (.lt (.app 12000 Q105 0) 3
 (.ite (.bin .eq V4 N0)
 (.ret (.cons V5 .nil))
 (.ret (.cons Tt .nil))))))))
theorem e20 : (fnVT Tryd.prog (sgOf sg20) (ltOf lt20) S20 Tryd.f20 c20).slim (S20.ps.map fun p => p.2.length).sum [] = vt20 := by kernel_rfl
def S9 : Sig := ⟨[(true, [i6, Ty2]), (false, [Ty6])], [(false, [i6])], [], none⟩
noncomputable def c9 : Code := Tryd.f9.body.getD .skip
theorem b9 : Tryd.f9.body = some c9 := body_some (by kernel_rfl)
theorem n9 : (Tryd.f9.name == "runtime.NumGoroutine") = false := by kernel_rfl
def sg9 : List (FuncId × Sig) := [(20, S20)]
def L9_0 : LoopSig := ⟨10900, [],
  ⟨[.any, (.c (.x Ty6 V0)), .any, .any, .any, (.c (.x i6 V1)), ] ++ an 7 ++ [(.c (.x Ty2 V2)), (.c (.x i6 V3)), (.c (.x i6 V4)), ] ++ an 20 ++ [.any],
  []⟩,
  5, [1, 4], ([16, 17, 18, 7] ++ rg 19 16 ++ [5, 35, 15]), [(.exit 0)], []⟩
def lt9 : List (Nat × LoopSig) := [(5, L9_0)]
theorem k9 : (Code.loops c9).length = 1 := by kernel_rfl
noncomputable def lb9_0 : Code := (Code.loops c9).getD 0 .skip
def rt9_0 : VT :=
 (.ite (.bin .lt V4 V3)
 (.need Tt (.c (.bin .le N0 V4))
 (.need Tt (.c (.bin .lt V4 (.un .len V2)))
 (.need Tt (.c (.bin .le N0 (.sel 1 V2 V4)))
 (.need Tt (.c (.bin .lt (.sel 1 V2 V4) (.un .len V0)))
 (.need Tt (.c (.bin .le N0 (.sel 0 V2 V4)))
 (.need Tt (.c (.bin .lt (.sel 0 V2 V4) (.un .len V0)))
 (.ret (.cons (.n (-1)) (.cons (.bin (.add .i64) V1 (.bin (.mul .i64) (.sel 3 V2 V4) (.bin (.sub .i64) (.sel 0 V0 (.sel 1 V2 V4)) (.sel 0 V0 (.sel 0 V2 V4))))) Q164)))))))))
 (.ret (.cons N0 Q267)))
theorem le9_0 : (loopVT Tryd.prog (sgOf sg9) (ltOf lt9) L9_0 lb9_0).slim L9_0.nv [] = rt9_0 := by kernel_rfl
theorem lf9_0 : (firstRegion lb9_0).bind (ltOf lt9) = some L9_0 := by kernel_rfl
theorem lk9_0 : (Code.loops lb9_0).length = 0 := by kernel_rfl
def vt9 : VT :=
 (.need Tt (.pre 20 Q204)
 (.lt (.app 20 Q204 0) 1
 (.ite (.un .not V3)
 (.ret (.cons N0 .nil))
 (.need Tt (.pre 10900 Q101)
 (.lt (.app 10900 Q101 0) 3
 (.ret (.cons V5 .nil)))))))
theorem e9 : (fnVT Tryd.prog (sgOf sg9) (ltOf lt9) S9 Tryd.f9 c9).slim (S9.ps.map fun p => p.2.length).sum [] = vt9 := by kernel_rfl
def S3 : Sig := ⟨[(true, [.str, .bool, Ty0, Ty1, Ty4]), (true, [i6, i6, i6, i6, .str, i6, i6])], [(false, [.bool])], [], none⟩
noncomputable def c3 : Code := Tryd.f3.body.getD .skip
theorem b3 : Tryd.f3.body = some c3 := body_some (by kernel_rfl)
theorem n3 : (Tryd.f3.name == "runtime.NumGoroutine") = false := by kernel_rfl
def sg3 : List (FuncId × Sig) := [(4, S4), (5, S5), (6, S6), (7, S7), (8, S8), (9, S9)]
def L3_0 : LoopSig := ⟨10300, [],
  ⟨[.any, .any, .any, .any, (.c (.x .bool V0)), .any, (.c (.ptr 6 0)), (.c (.ptr 7 0)), (.c (.x i6 V1)), ] ++ an 101 ++ [.any],
  [none, none, none, none, none, none, some ⟨Tt, (.box 35 [(.x i6 V2), (.x Ty2 V3)] false)⟩, some ⟨Tt, (.box 35 [(.x i6 V4), (.x Ty2 V5)] false)⟩]⟩,
  6, [0, 1], ([56, 57, 58, 59, 60] ++ rg 63 12 ++ [4, 61, 62, 8]), [.ret, (.exit 0)], []⟩
def lt3 : List (Nat × LoopSig) := [(10, L3_0)]
theorem k3 : (Code.loops c3).length = 1 := by kernel_rfl
noncomputable def lb3_0 : Code := (Code.loops c3).getD 0 .skip
def rt3_0 : VT :=
 (.ite Q260
 (.need Tt (.c (.bin .le N0 V1))
 (.need Tt (.c Q244)
 (.ite (.un .not (.ite (.bin .eq (.sel 0 V3 V1) (.sel 0 V5 V1)) (.ite (.bin .eq (.sel 1 V3 V1) (.sel 1 V5 V1)) (.ite (.bin .eq (.sel 2 V3 V1) (.sel 2 V5 V1)) (.bin .eq (.sel 3 V3 V1) (.sel 3 V5 V1)) (.t false)) (.t false)) (.t false)))
 (.need Tt (.pre 6 .nil)
 (.lt (.app 6 .nil 0) 1
 (.ret (.cons N0 (.cons V6 (.cons V1 .nil))))))
 (.ret Q87))))
 (.ret Q160))
theorem le3_0 : (loopVT Tryd.prog (sgOf sg3) (ltOf lt3) L3_0 lb3_0).slim L3_0.nv [] = rt3_0 := by kernel_rfl
theorem lf3_0 : (firstRegion lb3_0).bind (ltOf lt3) = some L3_0 := by kernel_rfl
theorem lk3_0 : (Code.loops lb3_0).length = 0 := by kernel_rfl
def vt3 : VT :=
 (.need Tt (.c (.bin .le (.un .len V3) (.n 2199023255552)))
 (.need Tt (.c (.bin .le (.un .len Q28) (.n 2199023255552)))
 (.need Tt (.pre 4 Q11)
 (.lt (.app 4 Q11 0) 1
 (.need V12 (.pre 5 Q113)
 (.lt (.app 5 Q113 0) 1
 (.need (.un .not (.ite (.un .not V12) Tt (.un .not (.bin .eq V13 N0)))) (.pre 5 Q15)
 (.lt (.app 5 Q15 0) 1
 (.ite (.ite (.ite (.ite (.un .not V12) Tt (.un .not (.bin .eq V13 N0))) Tt (.un .not (.bin .eq V14 N0))) Tt (.bin .eq V5 V6))
 (.need Tt (.pre 6 .nil)
 (.lt (.app 6 .nil 0) 1
 (.ret (.cons V15 .nil))))
 (.need Tt (.pre 7 Q113)
 (.lt (.app 7 Q113 0) 2
 (.need Tt (.pre 7 Q15)
 (.lt (.app 7 Q15 0) 2
 (.ite (.un .not (.bin .eq (.un .len V18) (.bin (.add .i64) (.un .len V16) (.n 1))))
 (.ret (.cons (.t false) .nil))
 (.need Tt (.pre 10300 Q69)
 (.lt (.app 10300 Q69 0) 3
 (.ite (.bin .eq V19 N0)
 (.ret (.cons V20 .nil))
 (.need Tt (.pre 8 Q113)
 (.lt Q100 3
 (.need Tt (.pre 8 Q15)
 (.lt (.app 8 Q15 0) 3
 (.need (.ite (.bin .eq V24 N0) (.bin .eq V27 N0) (.t false)) (.pre 9 Q174)
 (.lt (.app 9 Q174 0) 1
 (.need (.ite (.bin .eq V24 N0) (.bin .eq V27 N0) (.t false)) (.pre 9 Q175)
 (.lt (.app 9 Q175 0) 1
 (.need (.ite (.ite (.bin .eq V24 N0) (.bin .eq V27 N0) (.t false)) Q107 (.t false)) (.pre 6 .nil)
 (.lt (.app 6 .nil 0) 1
 (.ret (.cons (.ite (.ite (.ite (.bin .eq V24 N0) (.bin .eq V27 N0) (.t false)) Q107 (.t false)) V30 (.t false)) .nil)))))))))))))))))))))))))))))
theorem e3 : (fnVT Tryd.prog (sgOf sg3) (ltOf lt3) S3 Tryd.f3 c3).slim (S3.ps.map fun p => p.2.length).sum [] = vt3 := by kernel_rfl
end Go.Proofs.YtinaaabmmjpijaaDoor.rv
