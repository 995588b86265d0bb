/- label: the examples of the law live. -/
import Derived.Test.YtcbmifaobdamhaaA28
namespace Go.Proofs.Ytcbmifaobdamhaa
open Go.RowKit Go.Own Go.Theory Go.BigFrame Go.Ib Go.Label Go.Shelf
set_option maxRecDepth 100000 in
set_option maxHeartbeats 4000000 in
theorem lives_any (w : World) : Calls Try.prog 15 #[] w fun e w' => e = .returned (.bool true) ∧ Below w.heap.size w w' := by
  have hex : Calls Try.prog 44 #[] w fun e w' => ∃ sa sr ca cr bs, e = .returned (.agg #[.int .i64 5, .slice sa 3 ca, .slice sr 4 cr]) ∧ LgAt w' ex sa sr ca cr bs ∧ Below w.heap.size w w' := example_any w
  go_enter Try.func15, Try.ntmps15
  go_wp2_with (fail)
  refine hex.mono ?_
  rintro e w1 ⟨sa, sr, ca, cr, bs, rfl, hA, c0⟩
  clear hex
  obtain ⟨W2, hW2⟩ : ∃ W2, w1.alloc (.cells #[.int .i64 5, .slice sa 3 ca, .slice sr 4 cr] 25) = W2 := ⟨_, rfl⟩
  have bW2 : Below w1.heap.size w1 W2 := by rw [← hW2]; exact alloc_below _ _
  have hB : Blk W2 w1.heap.size [.int .i64 5, .slice sa 3 ca, .slice sr 4 cr] 25 := by rw [← hW2]; exact Blk.new w1 #[.int .i64 5, .slice sa 3 ca, .slice sr 4 cr] 25
  have hA1 := hA.below bW2
  clear hA
  have tb2 := c0.trans (bW2.mono c0.size)
  clear c0
  clear bW2
  have c_0 := hB.cell (i := 0) rfl; have c_1 := hB.cell (i := 1) rfl; have c_2 := hB.cell (i := 2) rfl
  go_wp2_with (fail)
  refine (labels4 sa sr ca cr bs W2 hA1).mono ?_
  rintro e w3 ⟨sl, cl, vs, sb, cb, rfl, hL, hN, b3⟩
  clear c_0 c_1 c_2
  have hA3 := hA1.below b3
  clear hA1
  have hB4 := hB.below b3 hB.lt
  clear hB
  have tb5 := tb2.trans (b3.mono tb2.size)
  clear tb2
  clear b3
  clear hW2
  have c_0 := hB4.cell (i := 0) rfl; have c_1 := hB4.cell (i := 1) rfl; have c_2 := hB4.cell (i := 2) rfl
  go_wp2_with (fail)
  refine (follows4 sa sr ca cr bs w3 hA3).mono ?_
  rintro e w4 ⟨sf, cf, rfl, hF, b4⟩
  clear c_0 c_1 c_2
  have hA6 := hA3.below b4
  clear hA3
  have hB7 := hB4.below b4 hB4.lt
  clear hB4
  have hL8 := hL.below b4
  clear hL
  have hN9 := hN.below b4
  clear hN
  have tb10 := tb5.trans (b4.mono tb5.size)
  clear tb5
  clear b4
  have c_0 := hB7.cell (i := 0) rfl; have c_1 := hB7.cell (i := 1) rfl; have c_2 := hB7.cell (i := 2) rfl
  go_wp2_with (fail)
  refine (why34 sa sr ca cr bs w4 hA6).mono ?_
  rintro e w5 ⟨so, co, rfl, hO, b5⟩
  clear c_0 c_1 c_2
  have hA11 := hA6.below b5
  clear hA6
  have hB12 := hB7.below b5 hB7.lt
  clear hB7
  have hL13 := hL8.below b5
  clear hL8
  have hN14 := hN9.below b5
  clear hN9
  have hF15 := hF.below b5
  clear hF
  have tb16 := tb10.trans (b5.mono tb10.size)
  clear tb10
  clear b5
  have c_0 := hB12.cell (i := 0) rfl; have c_1 := hB12.cell (i := 1) rfl; have c_2 := hB12.cell (i := 2) rfl
  go_wp2_with (fail)
  refine (why74 sa sr ca cr bs w5 hA11).mono ?_
  rintro e w6 ⟨st, ct, rfl, hT, b6⟩
  clear c_0 c_1 c_2
  have hA17 := hA11.below b6
  clear hA11
  have hB18 := hB12.below b6 hB12.lt
  clear hB12
  have hL19 := hL13.below b6
  clear hL13
  have hN20 := hN14.below b6
  clear hN14
  have hF21 := hF15.below b6
  clear hF15
  have hO22 := hO.below b6
  clear hO
  have tb23 := tb16.trans (b6.mono tb16.size)
  clear tb16
  clear b6
  have c_0 := hB18.cell (i := 0) rfl; have c_1 := hB18.cell (i := 1) rfl; have c_2 := hB18.cell (i := 2) rfl
  go_wp2_with (fail)
  refine (why6m sa sr ca cr bs w6 hA17).mono ?_
  rintro e w7 ⟨su, cu, rfl, hU, b7⟩
  clear c_0 c_1 c_2
  have hA24 := hA17.below b7
  clear hA17
  have hB25 := hB18.below b7 hB18.lt
  clear hB18
  have hL26 := hL19.below b7
  clear hL19
  have hN27 := hN20.below b7
  clear hN20
  have hF28 := hF21.below b7
  clear hF21
  have hO29 := hO22.below b7
  clear hO22
  have hT30 := hT.below b7
  clear hT
  have tb31 := tb23.trans (b7.mono tb23.size)
  clear tb23
  clear b7
  have c_0 := hB25.cell (i := 0) rfl; have c_1 := hB25.cell (i := 1) rfl; have c_2 := hB25.cell (i := 2) rfl
  go_wp2_with (fail)
  refine (why14 sa sr ca cr bs w7 hA24).mono ?_
  rintro e w8 ⟨sz, cz, rfl, b8⟩
  clear c_0 c_1 c_2
  have hA32 := hA24.below b8
  clear hA24
  have hB33 := hB25.below b8 hB25.lt
  clear hB25
  have hL34 := hL26.below b8
  clear hL26
  have hN35 := hN27.below b8
  clear hN27
  have hF36 := hF28.below b8
  clear hF28
  have hO37 := hO29.below b8
  clear hO29
  have hT38 := hT30.below b8
  clear hT30
  have hU39 := hU.below b8
  clear hU
  have tb40 := tb31.trans (b8.mono tb31.size)
  clear tb31
  clear b8
  obtain ⟨V1, eV1⟩ : ∃ V1, w8.alloc (.cells #[.int .i64 1] 26) = V1 := ⟨_, rfl⟩
  have bV1 : Below w8.heap.size w8 V1 := by rw [← eV1]; exact alloc_below _ _
  have hl0 : Sl V1 1 (.slice (some ⟨w8.heap.size, 0, none⟩) 1 1) 1 (([1] : List Int).map (.int .i64)) := by rw [← eV1]; exact sl_new w8 _ 26 1 rfl (by decide)
  have hA41 := hA32.below bV1
  clear hA32
  have hB42 := hB33.below bV1 hB33.lt
  clear hB33
  have hL43 := hL34.below bV1
  clear hL34
  have hN44 := hN35.below bV1
  clear hN35
  have hF45 := hF36.below bV1
  clear hF36
  have hO46 := hO37.below bV1
  clear hO37
  have hT47 := hT38.below bV1
  clear hT38
  have hU48 := hU39.below bV1
  clear hU39
  have tb49 := tb40.trans (bV1.mono tb40.size)
  clear tb40
  clear bV1
  obtain ⟨V2, eV2⟩ : ∃ V2, V1.alloc (.cells #[.int .i64 2] 26) = V2 := ⟨_, rfl⟩
  have bV2 : Below V1.heap.size V1 V2 := by rw [← eV2]; exact alloc_below _ _
  have hl1 : Sl V2 1 (.slice (some ⟨V1.heap.size, 0, none⟩) 1 1) 1 (([2] : List Int).map (.int .i64)) := by rw [← eV2]; exact sl_new V1 _ 26 1 rfl (by decide)
  have hA50 := hA41.below bV2
  clear hA41
  have hB51 := hB42.below bV2 hB42.lt
  clear hB42
  have hL52 := hL43.below bV2
  clear hL43
  have hN53 := hN44.below bV2
  clear hN44
  have hF54 := hF45.below bV2
  clear hF45
  have hO55 := hO46.below bV2
  clear hO46
  have hT56 := hT47.below bV2
  clear hT47
  have hU57 := hU48.below bV2
  clear hU48
  have hl058 := hl0.below bV2
  clear hl0
  have tb59 := tb49.trans (bV2.mono tb49.size)
  clear tb49
  clear bV2
  obtain ⟨V3, eV3⟩ : ∃ V3, V2.alloc (.cells #[.int .i64 4] 26) = V3 := ⟨_, rfl⟩
  have bV3 : Below V2.heap.size V2 V3 := by rw [← eV3]; exact alloc_below _ _
  have hl2 : Sl V3 1 (.slice (some ⟨V2.heap.size, 0, none⟩) 1 1) 1 (([4] : List Int).map (.int .i64)) := by rw [← eV3]; exact sl_new V2 _ 26 1 rfl (by decide)
  have hA60 := hA50.below bV3
  clear hA50
  have hB61 := hB51.below bV3 hB51.lt
  clear hB51
  have hL62 := hL52.below bV3
  clear hL52
  have hN63 := hN53.below bV3
  clear hN53
  have hF64 := hF54.below bV3
  clear hF54
  have hO65 := hO55.below bV3
  clear hO55
  have hT66 := hT56.below bV3
  clear hT56
  have hU67 := hU57.below bV3
  clear hU57
  have hl068 := hl058.below bV3
  clear hl058
  have hl169 := hl1.below bV3
  clear hl1
  have tb70 := tb59.trans (bV3.mono tb59.size)
  clear tb59
  clear bV3
  obtain ⟨V4, eV4⟩ : ∃ V4, V3.alloc (.cells #[.int .i64 4, .int .i64 3] 26) = V4 := ⟨_, rfl⟩
  have bV4 : Below V3.heap.size V3 V4 := by rw [← eV4]; exact alloc_below _ _
  have hl3 : Sl V4 1 (.slice (some ⟨V3.heap.size, 0, none⟩) 2 2) 2 (([4, 3] : List Int).map (.int .i64)) := by rw [← eV4]; exact sl_new V3 _ 26 2 rfl (by decide)
  have hA71 := hA60.below bV4
  clear hA60
  have hB72 := hB61.below bV4 hB61.lt
  clear hB61
  have hL73 := hL62.below bV4
  clear hL62
  have hN74 := hN63.below bV4
  clear hN63
  have hF75 := hF64.below bV4
  clear hF64
  have hO76 := hO65.below bV4
  clear hO65
  have hT77 := hT66.below bV4
  clear hT66
  have hU78 := hU67.below bV4
  clear hU67
  have hl079 := hl068.below bV4
  clear hl068
  have hl180 := hl169.below bV4
  clear hl169
  have hl281 := hl2.below bV4
  clear hl2
  have tb82 := tb70.trans (bV4.mono tb70.size)
  clear tb70
  clear bV4
  obtain ⟨V5, eV5⟩ : ∃ V5, V4.alloc (.cells #[.int .i64 4, .int .i64 3] 26) = V5 := ⟨_, rfl⟩
  have bV5 : Below V4.heap.size V4 V5 := by rw [← eV5]; exact alloc_below _ _
  have hl4 : Sl V5 1 (.slice (some ⟨V4.heap.size, 0, none⟩) 2 2) 2 (([4, 3] : List Int).map (.int .i64)) := by rw [← eV5]; exact sl_new V4 _ 26 2 rfl (by decide)
  have hA83 := hA71.below bV5
  clear hA71
  have hB84 := hB72.below bV5 hB72.lt
  clear hB72
  have hL85 := hL73.below bV5
  clear hL73
  have hN86 := hN74.below bV5
  clear hN74
  have hF87 := hF75.below bV5
  clear hF75
  have hO88 := hO76.below bV5
  clear hO76
  have hT89 := hT77.below bV5
  clear hT77
  have hU90 := hU78.below bV5
  clear hU78
  have hl091 := hl079.below bV5
  clear hl079
  have hl192 := hl180.below bV5
  clear hl180
  have hl293 := hl281.below bV5
  clear hl281
  have hl394 := hl3.below bV5
  clear hl3
  have tb95 := tb82.trans (bV5.mono tb82.size)
  clear tb82
  clear bV5
  obtain ⟨V6, eV6⟩ : ∃ V6, V5.alloc (.cells #[.slice (some ⟨w8.heap.size, 0, none⟩) 1 1, .slice (some ⟨V1.heap.size, 0, none⟩) 1 1, .slice (some ⟨V2.heap.size, 0, none⟩) 1 1, .slice (some ⟨V3.heap.size, 0, none⟩) 2 2, .slice (some ⟨V4.heap.size, 0, none⟩) 2 2] 37) = V6 := ⟨_, rfl⟩
  have bV6 : Below V5.heap.size V5 V6 := by rw [← eV6]; exact alloc_below _ _
  have hlo : Sl V6 1 (.slice (some ⟨V5.heap.size, 0, none⟩) 5 5) 5 [.slice (some ⟨w8.heap.size, 0, none⟩) 1 1, .slice (some ⟨V1.heap.size, 0, none⟩) 1 1, .slice (some ⟨V2.heap.size, 0, none⟩) 1 1, .slice (some ⟨V3.heap.size, 0, none⟩) 2 2, .slice (some ⟨V4.heap.size, 0, none⟩) 2 2] := by rw [← eV6]; exact sl_new V5 _ 37 5 rfl (by decide)
  have hA96 := hA83.below bV6
  clear hA83
  have hB97 := hB84.below bV6 hB84.lt
  clear hB84
  have hL98 := hL85.below bV6
  clear hL85
  have hN99 := hN86.below bV6
  clear hN86
  have hF100 := hF87.below bV6
  clear hF87
  have hO101 := hO88.below bV6
  clear hO88
  have hT102 := hT89.below bV6
  clear hT89
  have hU103 := hU90.below bV6
  clear hU90
  have hl0104 := hl091.below bV6
  clear hl091
  have hl1105 := hl192.below bV6
  clear hl192
  have hl2106 := hl293.below bV6
  clear hl293
  have hl3107 := hl394.below bV6
  clear hl394
  have hl4108 := hl4.below bV6
  clear hl4
  have tb109 := tb95.trans (bV6.mono tb95.size)
  clear tb95
  clear bV6
  have hLL : LLs V6 (some ⟨V5.heap.size, 0, none⟩) 5 [.slice (some ⟨w8.heap.size, 0, none⟩) 1 1, .slice (some ⟨V1.heap.size, 0, none⟩) 1 1, .slice (some ⟨V2.heap.size, 0, none⟩) 1 1, .slice (some ⟨V3.heap.size, 0, none⟩) 2 2, .slice (some ⟨V4.heap.size, 0, none⟩) 2 2] [[1], [2], [4], [4, 3], [4, 3]] := ⟨hlo, fun i v hi hv => by
    match i, hi with
    | 0, _ => injection hv with hv; subst hv; exact hl0104
    | 1, _ => injection hv with hv; subst hv; exact hl1105
    | 2, _ => injection hv with hv; subst hv; exact hl2106
    | 3, _ => injection hv with hv; subst hv; exact hl3107
    | 4, _ => injection hv with hv; subst hv; exact hl4108⟩
  clear hl0104
  clear hl1105
  clear hl2106
  clear hl3107
  clear hl4108
  clear hlo
  have hsm := fun (i : Nat) (hi : i < ([[1], [2], [4], [4, 3], [4, 3]] : List (List Int)).length) => (show (([[1], [2], [4], [4, 3], [4, 3]] : List (List Int)).getD i []).length ≤ 1000000 by match i, hi with | 0, _ => decide | 1, _ => decide | 2, _ => decide | 3, _ => decide | 4, _ => decide)
  have hcall := sameL_any [[1], [2], [4], [4, 3], [4, 3]] [[1], [2], [4], [4, 3], [4, 3]] sl (some ⟨V5.heap.size, 0, none⟩) cl 5 vs _ V6 hL98 hLL hsm (by decide)
  clear hLL hsm
  have HCALL := Lib.hid hcall; clear hcall
  go_wp2_with (fail)
  refine (HCALL.out).mono ?_
  rintro e w9 ⟨rfl, b9⟩
  have hA110 := hA96.below b9
  clear hA96
  have hB111 := hB97.below b9 hB97.lt
  clear hB97
  have hL112 := hL98.below b9
  clear hL98
  have hN113 := hN99.below b9
  clear hN99
  have hF114 := hF100.below b9
  clear hF100
  have hO115 := hO101.below b9
  clear hO101
  have hT116 := hT102.below b9
  clear hT102
  have hU117 := hU103.below b9
  clear hU103
  have tb118 := tb109.trans (b9.mono tb109.size)
  clear tb109
  clear b9
  clear HCALL eV1 eV2 eV3 eV4 eV5 eV6
  rw [show (([[1], [2], [4], [4, 3], [4, 3]] : List (List Int)) == [[1], [2], [4], [4, 3], [4, 3]]) = true from rfl]
  obtain ⟨V7, eV7⟩ : ∃ V7, w9.alloc (.cells #[.int .i64 6] 26) = V7 := ⟨_, rfl⟩
  have bV7 : Below w9.heap.size w9 V7 := by rw [← eV7]; exact alloc_below _ _
  have sk : Sl V7 1 (.slice (some ⟨w9.heap.size, 0, none⟩) 1 1) 1 (([6] : List Int).map (.int .i64)) := by rw [← eV7]; exact sl_new w9 _ 26 1 rfl (by decide)
  have hA119 := hA110.below bV7
  clear hA110
  have hB120 := hB111.below bV7 hB111.lt
  clear hB111
  have hL121 := hL112.below bV7
  clear hL112
  have hN122 := hN113.below bV7
  clear hN113
  have hF123 := hF114.below bV7
  clear hF114
  have hO124 := hO115.below bV7
  clear hO115
  have hT125 := hT116.below bV7
  clear hT116
  have hU126 := hU117.below bV7
  clear hU117
  have tb127 := tb118.trans (bV7.mono tb118.size)
  clear tb118
  clear bV7
  go_wp2_with (fail)
  refine (same_any [6] [6] _ _ _ _ V7 hN122 sk (.inl (by decide))).mono ?_
  rintro e w10 ⟨rfl, b10⟩
  have hA128 := hA119.below b10
  clear hA119
  have hB129 := hB120.below b10 hB120.lt
  clear hB120
  have hL130 := hL121.below b10
  clear hL121
  have hN131 := hN122.below b10
  clear hN122
  have hF132 := hF123.below b10
  clear hF123
  have hO133 := hO124.below b10
  clear hO124
  have hT134 := hT125.below b10
  clear hT125
  have hU135 := hU126.below b10
  clear hU126
  have tb136 := tb127.trans (b10.mono tb127.size)
  clear tb127
  clear b10
  clear sk eV7
  rw [show (([6] : List Int) == [6]) = true from rfl]
  clear hN131
  obtain ⟨V8, eV8⟩ : ∃ V8, w10.alloc (.cells #[.int .i64 0, .int .i64 2] 3) = V8 := ⟨_, rfl⟩
  have bV8 : Below w10.heap.size w10 V8 := by rw [← eV8]; exact alloc_below _ _
  have sk : Sl V8 1 (.slice (some ⟨w10.heap.size, 0, none⟩) 2 2) 2 (([0, 2] : List Int).map (.int .i64)) := by rw [← eV8]; exact sl_new w10 _ 3 2 rfl (by decide)
  have hA137 := hA128.below bV8
  clear hA128
  have hB138 := hB129.below bV8 hB129.lt
  clear hB129
  have hL139 := hL130.below bV8
  clear hL130
  have hF140 := hF132.below bV8
  clear hF132
  have hO141 := hO133.below bV8
  clear hO133
  have hT142 := hT134.below bV8
  clear hT134
  have hU143 := hU135.below bV8
  clear hU135
  have tb144 := tb136.trans (bV8.mono tb136.size)
  clear tb136
  clear bV8
  go_wp2_with (fail)
  refine (sameInts_any [0, 2] [0, 2] _ _ _ _ V8 hO141 sk (.inl (by decide))).mono ?_
  rintro e w11 ⟨rfl, b11⟩
  have hA145 := hA137.below b11
  clear hA137
  have hB146 := hB138.below b11 hB138.lt
  clear hB138
  have hL147 := hL139.below b11
  clear hL139
  have hF148 := hF140.below b11
  clear hF140
  have hO149 := hO141.below b11
  clear hO141
  have hT150 := hT142.below b11
  clear hT142
  have hU151 := hU143.below b11
  clear hU143
  have tb152 := tb144.trans (b11.mono tb144.size)
  clear tb144
  clear b11
  clear sk eV8
  rw [show (([0, 2] : List Int) == [0, 2]) = true from rfl]
  obtain ⟨V9, eV9⟩ : ∃ V9, w11.alloc (.cells #[.int .i64 0, .int .i64 2] 3) = V9 := ⟨_, rfl⟩
  have bV9 : Below w11.heap.size w11 V9 := by rw [← eV9]; exact alloc_below _ _
  have sk : Sl V9 1 (.slice (some ⟨w11.heap.size, 0, none⟩) 2 2) 2 (([0, 2] : List Int).map (.int .i64)) := by rw [← eV9]; exact sl_new w11 _ 3 2 rfl (by decide)
  have hA153 := hA145.below bV9
  clear hA145
  have hB154 := hB146.below bV9 hB146.lt
  clear hB146
  have hL155 := hL147.below bV9
  clear hL147
  have hF156 := hF148.below bV9
  clear hF148
  have hO157 := hO149.below bV9
  clear hO149
  have hT158 := hT150.below bV9
  clear hT150
  have hU159 := hU151.below bV9
  clear hU151
  have tb160 := tb152.trans (bV9.mono tb152.size)
  clear tb152
  clear bV9
  go_wp2_with (fail)
  refine (sameInts_any [0, 2] [0, 2] _ _ _ _ V9 hT158 sk (.inl (by decide))).mono ?_
  rintro e w12 ⟨rfl, b12⟩
  have hA161 := hA153.below b12
  clear hA153
  have hB162 := hB154.below b12 hB154.lt
  clear hB154
  have hL163 := hL155.below b12
  clear hL155
  have hF164 := hF156.below b12
  clear hF156
  have hO165 := hO157.below b12
  clear hO157
  have hT166 := hT158.below b12
  clear hT158
  have hU167 := hU159.below b12
  clear hU159
  have tb168 := tb160.trans (b12.mono tb160.size)
  clear tb160
  clear b12
  clear sk eV9
  rw [show (([0, 2] : List Int) == [0, 2]) = true from rfl]
  clear hT166
  obtain ⟨VA, eVA⟩ : ∃ VA, w12.alloc (.cells #[.int .i64 3] 3) = VA := ⟨_, rfl⟩
  have bVA : Below w12.heap.size w12 VA := by rw [← eVA]; exact alloc_below _ _
  have sk : Sl VA 1 (.slice (some ⟨w12.heap.size, 0, none⟩) 1 1) 1 (([3] : List Int).map (.int .i64)) := by rw [← eVA]; exact sl_new w12 _ 3 1 rfl (by decide)
  have hA169 := hA161.below bVA
  clear hA161
  have hB170 := hB162.below bVA hB162.lt
  clear hB162
  have hL171 := hL163.below bVA
  clear hL163
  have hF172 := hF164.below bVA
  clear hF164
  have hO173 := hO165.below bVA
  clear hO165
  have hU174 := hU167.below bVA
  clear hU167
  have tb175 := tb168.trans (bVA.mono tb168.size)
  clear tb168
  clear bVA
  go_wp2_with (fail)
  refine (sameInts_any [3] [3] _ _ _ _ VA hU174 sk (.inl (by decide))).mono ?_
  rintro e w13 ⟨rfl, b13⟩
  have hA176 := hA169.below b13
  clear hA169
  have hB177 := hB170.below b13 hB170.lt
  clear hB170
  have hL178 := hL171.below b13
  clear hL171
  have hF179 := hF172.below b13
  clear hF172
  have hO180 := hO173.below b13
  clear hO173
  have hU181 := hU174.below b13
  clear hU174
  have tb182 := tb175.trans (b13.mono tb175.size)
  clear tb175
  clear b13
  clear sk eVA
  rw [show (([3] : List Int) == [3]) = true from rfl]
  clear hU181
  obtain ⟨VB, eVB⟩ : ∃ VB, w13.alloc (.cells #[.bool true, .bool true, .bool false, .bool true, .bool true] 4) = VB := ⟨_, rfl⟩
  have bVB : Below w13.heap.size w13 VB := by rw [← eVB]; exact alloc_below _ _
  have sk : Sl VB 1 (.slice (some ⟨w13.heap.size, 0, none⟩) 5 5) 5 (([true, true, false, true, true] : List Bool).map .bool) := by rw [← eVB]; exact sl_new w13 _ 4 5 rfl (by decide)
  have hA183 := hA176.below bVB
  clear hA176
  have hB184 := hB177.below bVB hB177.lt
  clear hB177
  have hL185 := hL178.below bVB
  clear hL178
  have hF186 := hF179.below bVB
  clear hF179
  have hO187 := hO180.below bVB
  clear hO180
  have tb188 := tb182.trans (bVB.mono tb182.size)
  clear tb182
  clear bVB
  go_wp2_with (fail)
  refine (sameBools_any [true, true, false, true, true] [true, true, false, true, true] _ _ _ _ VB hF186 sk (.inl (by decide))).mono ?_
  rintro e w14 ⟨rfl, b14⟩
  have hA189 := hA183.below b14
  clear hA183
  have hB190 := hB184.below b14 hB184.lt
  clear hB184
  have hL191 := hL185.below b14
  clear hL185
  have hF192 := hF186.below b14
  clear hF186
  have hO193 := hO187.below b14
  clear hO187
  have tb194 := tb188.trans (b14.mono tb188.size)
  clear tb188
  clear b14
  clear sk eVB
  rw [show (([true, true, false, true, true] : List Bool) == [true, true, false, true, true]) = true from rfl]
  clear hF192
  obtain ⟨x3, hx3⟩ := hL191.val (i := 3) (by decide)
  have sx3 : Sl w14 1 x3 2 (([4, 3] : List Int).map (.int .i64)) := hL191.row 3 x3 (by decide) hx3
  obtain ⟨ba3, oa3, hsl3, _, _, hCa3, _⟩ := sl_at hL191.out (by decide)
  have cx3 : w14.cell? ⟨ba3, oa3 + 3, none⟩ = some x3 := hCa3 3 _ hx3
  obtain ⟨sy3, cy3, rfl, _, _⟩ := sl_slice sx3
  clear hCa3 hx3
  have hc3 := prests_any [4, 3] 2 sy3 cy3 w14 sx3 (by decide) (by decide)
  clear sx3
  rw [ex_rests.1] at hc3
  have HC3 := Lib.hid hc3; clear hc3
  subst hsl3
  go_wp2_with (fail)
  refine (HC3.out).mono ?_
  rintro e w15 ⟨rfl, b15⟩
  have hA195 := hA189.below b15
  clear hA189
  have hB196 := hB190.below b15 hB190.lt
  clear hB190
  have hL197 := hL191.below b15
  clear hL191
  have hO198 := hO193.below b15
  clear hO193
  have tb199 := tb194.trans (b15.mono tb194.size)
  clear tb194
  clear b15
  clear HC3 cx3
  obtain ⟨x2, hx2⟩ := hL197.val (i := 2) (by decide)
  have sx2 : Sl w15 1 x2 1 (([4] : List Int).map (.int .i64)) := hL197.row 2 x2 (by decide) hx2
  obtain ⟨ba2, oa2, hsl2, _, _, hCa2, _⟩ := sl_at hL197.out (by decide)
  injection hsl2 with hsl2; injection hsl2 with hs1 hs2; subst hs1 hs2
  have cx2 : w15.cell? ⟨ba3, oa3 + 2, none⟩ = some x2 := hCa2 2 _ hx2
  obtain ⟨sy2, cy2, rfl, _, _⟩ := sl_slice sx2
  clear hCa2 hx2
  have hc2 := prests_any [4] 2 sy2 cy2 w15 sx2 (by decide) (by decide)
  clear sx2
  rw [ex_rests.2] at hc2
  have HC2 := Lib.hid hc2; clear hc2
  go_wp2_with (fail)
  refine (HC2.out).mono ?_
  rintro e w16 ⟨rfl, b16⟩
  have hA200 := hA195.below b16
  clear hA195
  have hB201 := hB196.below b16 hB196.lt
  clear hB196
  have hL202 := hL197.below b16
  clear hL197
  have hO203 := hO198.below b16
  clear hO198
  have tb204 := tb199.trans (b16.mono tb199.size)
  clear tb199
  clear b16
  clear HC2 cx2
  clear hL202
  have hk1 := check4 [0, 2] sa sr so ca cr co bs w16 hA200 hO203 (by decide)
  rw [ex_check.1] at hk1
  have HK1 := Lib.hid hk1; clear hk1
  have c_0 := hB201.cell (i := 0) rfl; have c_1 := hB201.cell (i := 1) rfl; have c_2 := hB201.cell (i := 2) rfl
  go_wp2_with (fail)
  refine (HK1.out).mono ?_
  rintro e w17 ⟨rfl, b17⟩
  clear c_0 c_1 c_2
  have hA205 := hA200.below b17
  clear hA200
  have hB206 := hB201.below b17 hB201.lt
  clear hB201
  have hO207 := hO203.below b17
  clear hO203
  have tb208 := tb204.trans (b17.mono tb204.size)
  clear tb204
  clear b17
  clear HK1
  have hk2 := check4 [] sa sr none ca cr 0 bs w17 hA205 (Sl.none0 _) (by decide)
  rw [ex_check.2] at hk2
  have HK2 := Lib.hid hk2; clear hk2
  have c_0 := hB206.cell (i := 0) rfl; have c_1 := hB206.cell (i := 1) rfl; have c_2 := hB206.cell (i := 2) rfl
  go_wp2_with (fail)
  refine (HK2.out).mono ?_
  rintro e w18 ⟨rfl, b18⟩
  clear c_0 c_1 c_2
  have hA209 := hA205.below b18
  clear hA205
  have hB210 := hB206.below b18 hB206.lt
  clear hB206
  have hO211 := hO207.below b18
  clear hO207
  have tb212 := tb208.trans (b18.mono tb208.size)
  clear tb208
  clear b18
  clear HK2
  go_wp2
  go_ret
  exact ⟨rfl, tb212⟩
end Go.Proofs.Ytcbmifaobdamhaa
