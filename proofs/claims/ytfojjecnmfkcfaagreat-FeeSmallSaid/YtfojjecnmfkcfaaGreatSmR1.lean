/- FeeSmall: a round of its first loop. -/
import Derived.Test.YtfojjecnmfkcfaaGreatSmD
import Derived.Deep.DeepCutAuto
import Derived.StillTailTactics
namespace Go.Proofs.YtfojjecnmfkcfaaGreat
open Go.ChangeShapes Go.WideShapes Go.ChangeAt Go.RowKit Go.Joins
set_option linter.unusedVariables false
set_option maxRecDepth 100000 in
set_option maxHeartbeats 8000000 in
theorem sm_r1 {u0 u1 u2 u3 u4 u5 u6 u7 u8 u9 u10 u11 u12 u13 u14 u15 u16 u17 u18 u19 u20 u21 u22 u23 u24 u25 u26 u27 u28 u29 u30 u34 u35 u36 u37 u38 u39 u40 u41 u42 u43 u44 u45 u46 u47 u48 u49 u50 u51 u52 u53 u54 u55 u56 u57 u58 u59 u60 u61 u62 u63 u64 u65 u66 u67 u68 u69 u70 u71 u72 u73 u74 u75 u76 u77 u78 u79 u80 u81 u82 u83 u84 u85 u86 u87 u88 u89 u90 u91 u92 u93 u94 u95 u96 u97 u98 u99 u100 u101 u102 u103 u104 u105 u106 u107 u108 u109 u110 u111 u112 u113 u114 u115 u116 u117 u118 u119 u120 u121 u122 u123 u124 u125 u126 u127 u128 u129 u130 u131 u132 u133 u134 u135 u136 u137 u138 u139 u140 u141 u142 u143 u144 u145 u146 u147 u148 u149 u150 u151 u152 u153 u154 u155 u156 u157 u158 u159 u160 u161 u162 u163 u164 u165 u166 u167 u168 u169 u170 u171 u172 u173 u174 u175 u176 u177 u178 u179 u180 u181 u182 u183 u184 u185 u186 u187 u188 u189 u190 u191 u192 u193 u194 u195 u196 u197 u198 u199 u200 u201 u202 u203 u204 u205 u206 u207 u208 u209 u210 u211 u212 u213 u214 u215 u216 u217 u218 u219 u220 u221 u222 u223 u224 u225 u226 u227 u228 u229 u230 u231 u232 u233 u234 u235 u236 u237 u238 u239 u240 u241 u242 u243 u244 u245 u246 u247 u248 u249 u250 u251 u252 u253 u254 u255 u256 u257 u258 u259 u260 u261 u262 u263 u264 u265 u266 u267 u268 u269 u270 u271 u272 u273 u274 u275 u276 u277 u278 u279 u280 u281 u282 u283 u284 u285 u286 u287 u288 u289 u290 u291 u292 u293 u294 u295 u296 u297 u298 u299 u300 u301 u302 u303 u304 u305 u306 u307 u308 u309 u310 u311 u312 u313 u314 u315 u316 u317 u318 u319 u320 u321 u322 u323 u324 u325 u326 u327 u328 u329 u330 u331 u332 u333 u334 u335 u336 u337 u338 u339 u340 u341 u342 u343 u344 u345 u346 u347 u348 u349 u350 u351 u352 u353 u354 u355 u356 u357 u358 u359 u360 u361 u362 u363 u364 u365 u366 u367 u368 u369 u370 u371 u372 u373 u374 u375 u376 u377 u378 u379 u380 u381 u382 u383 u384 u385 u386 u387 u388 u389 u390 u391 u392 u393 u394 u395 u396 u397 u398 u399 u400 u401 u402 u403 u404 u405 u406 u407 u408 u409 u410 u411 u412 u413 u414 u415 u416 u417 u418 u419 u420 u421 u422 u423 u424 u425 u426 u427 u428 : Value} {W1 wr : World} {g31 k : Nat} {K : Act → World → Prop} {Q0 : Exit → Act → World → Prop} (HB : Hid (Below W1.heap.size W1 wr)) (lz1 : g31 < W1.heap.size) (HV : Hid (∀ k, k < 28 → ∃ v, W1.cell? ⟨g31, k, none⟩ = some (.int .i64 v))) (hlt : k < 28)
    (hK : ∀ (x0 x2 x3 x4 x5 x6 x7 x8 x9 x10 x11 x12 x13 x14 x34 x35 x36 x37 x38 x39 x40 x41 x42 x43 x44 x45 x46 x47 x48 x49 x50 x51 x52 x53 x54 x55 x56 x57 x58 x59 x60 x61 x62 x63 x64 x65 x66 x67 x68 x69 x70 x71 x72 x73 x74 x75 x76 x77 x78 x79 x80 x81 x82 x83 x84 x85 x86 x87 x88 x89 x90 x91 x92 x93 x94 x95 x96 x97 x98 x99 x100 x101 x102 x103 x104 x105 x106 x107 x108 x109 x110 x111 x112 x113 x114 x115 x116 x117 x118 x119 x120 x121 x122 x123 x124 x125 x126 x127 x128 x129 x130 x131 x132 x133 x134 x135 x136 x137 x138 x139 x140 x141 x142 x143 x144 x145 x146 x147 x148 x149 x150 x151 x152 x153 x154 : Value) (wx : World), Hid (Below W1.heap.size W1 wx) → K ⟨#[x0, u1, x2, x3, x4, x5, x6, x7, x8, x9, x10, x11, x12, x13, x14, u15, u16, u17, u18, u19, u20, u21, u22, u23, u24, u25, u26, u27, u28, u29, u30, .slice (some ⟨g31, 0, none⟩) 28 28, .int .i64 28, .int .i64 ((k : Int) + 1), x34, x35, x36, x37, x38, x39, x40, x41, x42, x43, x44, x45, x46, x47, x48, x49, x50, x51, x52, x53, x54, x55, x56, x57, x58, x59, x60, x61, x62, x63, x64, x65, x66, x67, x68, x69, x70, x71, x72, x73, x74, x75, x76, x77, x78, x79, x80, x81, x82, x83, x84, x85, x86, x87, x88, x89, x90, x91, x92, x93, x94, x95, x96, x97, x98, x99, x100, x101, x102, x103, x104, x105, x106, x107, x108, x109, x110, x111, x112, x113, x114, x115, x116, x117, x118, x119, x120, x121, x122, x123, x124, x125, x126, x127, x128, x129, x130, x131, x132, x133, x134, x135, x136, x137, x138, x139, x140, x141, x142, x143, x144, x145, x146, x147, x148, x149, x150, x151, x152, x153, x154, u155, u156, u157, u158, u159, u160, u161, u162, u163, u164, u165, u166, u167, u168, u169, u170, u171, u172, u173, u174, u175, u176, u177, u178, u179, u180, u181, u182, u183, u184, u185, u186, u187, u188, u189, u190, u191, u192, u193, u194, u195, u196, u197, u198, u199, u200, u201, u202, u203, u204, u205, u206, u207, u208, u209, u210, u211, u212, u213, u214, u215, u216, u217, u218, u219, u220, u221, u222, u223, u224, u225, u226, u227, u228, u229, u230, u231, u232, u233, u234, u235, u236, u237, u238, u239, u240, u241, u242, u243, u244, u245, u246, u247, u248, u249, u250, u251, u252, u253, u254, u255, u256, u257, u258, u259, u260, u261, u262, u263, u264, u265, u266, u267, u268, u269, u270, u271, u272, u273, u274, u275, u276, u277, u278, u279, u280, u281, u282, u283, u284, u285, u286, u287, u288, u289, u290, u291, u292, u293, u294, u295, u296, u297, u298, u299, u300, u301, u302, u303, u304, u305, u306, u307, u308, u309, u310, u311, u312, u313, u314, u315, u316, u317, u318, u319, u320, u321, u322, u323, u324, u325, u326, u327, u328, u329, u330, u331, u332, u333, u334, u335, u336, u337, u338, u339, u340, u341, u342, u343, u344, u345, u346, u347, u348, u349, u350, u351, u352, u353, u354, u355, u356, u357, u358, u359, u360, u361, u362, u363, u364, u365, u366, u367, u368, u369, u370, u371, u372, u373, u374, u375, u376, u377, u378, u379, u380, u381, u382, u383, u384, u385, u386, u387, u388, u389, u390, u391, u392, u393, u394, u395, u396, u397, u398, u399, u400, u401, u402, u403, u404, u405, u406, u407, u408, u409, u410, u411, u412, u413, u414, u415, u416, u417, u418, u419, u420, u421, u422, u423, u424, u425, u426, u427, u428], []⟩ wx) :
    Code.wp Tryz.prog (smBody 0) (Exit.then K Q0) ⟨#[u0, u1, u2, u3, u4, u5, u6, u7, u8, u9, u10, u11, u12, u13, u14, u15, u16, u17, u18, u19, u20, u21, u22, u23, u24, u25, u26, u27, u28, u29, u30, .slice (some ⟨g31, 0, none⟩) 28 28, .int .i64 28, .int .i64 k, u34, u35, u36, u37, u38, u39, u40, u41, u42, u43, u44, u45, u46, u47, u48, u49, u50, u51, u52, u53, u54, u55, u56, u57, u58, u59, u60, u61, u62, u63, u64, u65, u66, u67, u68, u69, u70, u71, u72, u73, u74, u75, u76, u77, u78, u79, u80, u81, u82, u83, u84, u85, u86, u87, u88, u89, u90, u91, u92, u93, u94, u95, u96, u97, u98, u99, u100, u101, u102, u103, u104, u105, u106, u107, u108, u109, u110, u111, u112, u113, u114, u115, u116, u117, u118, u119, u120, u121, u122, u123, u124, u125, u126, u127, u128, u129, u130, u131, u132, u133, u134, u135, u136, u137, u138, u139, u140, u141, u142, u143, u144, u145, u146, u147, u148, u149, u150, u151, u152, u153, u154, u155, u156, u157, u158, u159, u160, u161, u162, u163, u164, u165, u166, u167, u168, u169, u170, u171, u172, u173, u174, u175, u176, u177, u178, u179, u180, u181, u182, u183, u184, u185, u186, u187, u188, u189, u190, u191, u192, u193, u194, u195, u196, u197, u198, u199, u200, u201, u202, u203, u204, u205, u206, u207, u208, u209, u210, u211, u212, u213, u214, u215, u216, u217, u218, u219, u220, u221, u222, u223, u224, u225, u226, u227, u228, u229, u230, u231, u232, u233, u234, u235, u236, u237, u238, u239, u240, u241, u242, u243, u244, u245, u246, u247, u248, u249, u250, u251, u252, u253, u254, u255, u256, u257, u258, u259, u260, u261, u262, u263, u264, u265, u266, u267, u268, u269, u270, u271, u272, u273, u274, u275, u276, u277, u278, u279, u280, u281, u282, u283, u284, u285, u286, u287, u288, u289, u290, u291, u292, u293, u294, u295, u296, u297, u298, u299, u300, u301, u302, u303, u304, u305, u306, u307, u308, u309, u310, u311, u312, u313, u314, u315, u316, u317, u318, u319, u320, u321, u322, u323, u324, u325, u326, u327, u328, u329, u330, u331, u332, u333, u334, u335, u336, u337, u338, u339, u340, u341, u342, u343, u344, u345, u346, u347, u348, u349, u350, u351, u352, u353, u354, u355, u356, u357, u358, u359, u360, u361, u362, u363, u364, u365, u366, u367, u368, u369, u370, u371, u372, u373, u374, u375, u376, u377, u378, u379, u380, u381, u382, u383, u384, u385, u386, u387, u388, u389, u390, u391, u392, u393, u394, u395, u396, u397, u398, u399, u400, u401, u402, u403, u404, u405, u406, u407, u408, u409, u410, u411, u412, u413, u414, u415, u416, u417, u418, u419, u420, u421, u422, u423, u424, u425, u426, u427, u428], []⟩ wr := by
  conv => arg 2; whnf
  have HK := Lib.hid hK
  clear hK
  obtain ⟨v, hv⟩ := HV.out k hlt
  have hv := HB.out.at_ lz1 hv
  have hkz : (k : Int) < 28 := by omega
  have hk0 : (0 : Int) ≤ (k : Int) := by omega
  have lz2 := Nat.lt_of_lt_of_le lz1 HB.out.size
  go_wp2_with fail
  obtain ⟨wo, hwo⟩ : ∃ x, x = wr := ⟨_, rfl⟩
  subst hwo
  clear hv
  go_loopw [37] (fun iv wr => ∃ i : Nat, iv = .int .i64 i ∧ i ≤ 22 ∧ Hid (Below wo.heap.size wo wr)) (fun iv _ => 22 - (intOf iv).toNat)
  case atStart => exact ⟨0, rfl, by omega, Below.refl _ _⟩
  case round =>
    obtain ⟨i, rfl, hi, HB2⟩ := hrel
    by_cases hil : i < 22
    · have hiz : (i : Int) < 22 := by omega
      go_wp2_with fail
      refine (Tariff_any _).mono ?_
      rintro e w1 ⟨bt, rfl, hbt, hLt, hb1⟩
      go_wp2_with fail
      refine (Three_any _).mono ?_
      rintro e w2 ⟨bb, rfl, hbb, hLb, hb2⟩
      go_wp2_with fail
      refine (Account_any _).mono ?_
      rintro e w3 ⟨bc, bp, rfl, hbc, hbp, hLc, hLp, hb3⟩
      unfold accV
      go_upto_region 10 with fail
      have HS := Lib.hid (sm_start (HB2.out.trans ((hb1.trans ((hb2.mono hb1.size).trans (hb3.mono (Nat.le_trans hb1.size hb2.size)))).mono HB2.out.size)) (by have := HB2.out.size; omega) (by have := HB2.out.size; have := hb1.size; omega) (by have := HB2.out.size; have := hb1.size; have := hb2.size; omega) (by have := HB2.out.size; have := hb1.size; have := hb2.size; omega) ((hLt.below hb2).below hb3) (hLb.below hb3) hLc hLp rfl rfl rfl rfl rfl rfl rfl rfl (t1 := 27) (t2 := 31) (t3 := 3))
      generalize World.alloc (World.alloc (World.alloc (World.alloc (World.alloc (World.alloc (World.alloc (World.alloc w3 _) _) _) _) _) _) _) _ = W4 at HS ⊢
      generalize hg5 : w3.heap.size = g5 at HS ⊢
      generalize hg6 : g5 + 1 = g6 at HS ⊢
      generalize hb7 : g6 + 1 = b7 at HS ⊢
      generalize hb8 : b7 + 1 = b8 at HS ⊢
      generalize hg9 : b8 + 1 = g9 at HS ⊢
      generalize hg10 : g9 + 1 = g10 at HS ⊢
      generalize hg11 : g10 + 1 = g11 at HS ⊢
      generalize hg12 : g11 + 1 = g12 at HS ⊢
      clear hg5 hg6 hb7 hb8 hg9 hg10 hg11 hg12 hb1 hb2 hb3 hLt hLb hLc hLp hbt hbb hbc hbp
      have hB5 := HS.out.h5
      have hB60 := HS.out.h60
      have hB61 := HS.out.h61
      go_still_tail 53, (by kernel_rfl)
      change wpList _ _ _ _ _ W4.drew
      obtain ⟨W5, hW5⟩ : ∃ x, x = W4.drew := ⟨_, rfl⟩
      rw [← hW5]
      have HS5 := Lib.hid (HS.out.next (show Below W4.heap.size W4 W5 by rw [hW5]; exact below_drew W4))
      clear hW5 HS hB5 hB60 hB61
      go_upto_region 11 with fail
      obtain ⟨pb, po, hp, hN⟩ := smL_at ⟨bt, bb, bc, bp, g5, g6, b7, b8, g9, g10, g11, g12⟩ hil
      have hT := new_cell W5 _ 33 _ i rfl hp
      have HT : Hid (∀ W, W = W5.alloc (.cells ((smL ⟨bt, bb, bc, bp, g5, g6, b7, b8, g9, g10, g11, g12⟩).map fun p => Value.pointer (some ⟨p.1, p.2, none⟩)).toArray 33) → W.cell? ⟨W5.heap.size, i, none⟩ = some (.pointer (some ⟨pb, po, none⟩)) ∧ Below W5.heap.size W5 W ∧ W5.heap.size < W.heap.size) := by
        show ∀ W, _
        rintro W rfl
        exact ⟨hT, below_new _ _, by simp⟩
      clear hT hp
      generalize hW6 : World.alloc W5 _ = W6
      obtain ⟨hT, b6, z6⟩ := HT.out W6 hW6.symm
      have HS6 := Lib.hid (HS5.out.next b6)
      clear hW6 HT HS5 b6
      obtain ⟨⟨n0, hc0⟩, hf0⟩ := HS6.out.num pb po hN
      have hi0 : (0 : Int) ≤ (i : Int) := by omega
      go_upto_region 12 with fail
      have HS7 := Lib.hid (HS6.out.put hN v)
      generalize World.setCell W6 _ _ = W7 at HS7 ⊢
      clear hT hc0 hf0 HS6 hN z6
      obtain ⟨n5, c50⟩ := HS7.out.int (b := g5) (o := 0) (by simp [SmN])
      have c51 := HS7.out.h5
      go_wp2_with fail
      refine (sm_shares HS7.out n5).mono ?_
      rintro e w8 ⟨rfl, hb8⟩
      have HS8 := Lib.hid (HS7.out.next hb8)
      clear HS7 c50 c51 hb8
      obtain ⟨n5, c50⟩ := HS8.out.int (b := g5) (o := 0) (by simp [SmN])
      obtain ⟨n9, c90⟩ := HS8.out.int (b := g9) (o := 0) (by simp [SmN])
      have c51 := HS8.out.h5
      go_wp2_with fail
      refine (sm_given HS8.out n5 n9).mono ?_
      rintro e w9 ⟨rfl, hb9⟩
      have HS9 := Lib.hid (HS8.out.next hb9)
      clear HS8 c50 c51 c90 hb9
      obtain ⟨n62, c62⟩ := HS9.out.int (b := g6) (o := 2) (by simp [SmN])
      obtain ⟨n63, c63⟩ := HS9.out.int (b := g6) (o := 3) (by simp [SmN])
      obtain ⟨n12, c12⟩ := HS9.out.int (b := g12) (o := 0) (by simp [SmN])
      have c60 := HS9.out.h60
      have c61 := HS9.out.h61
      go_wp2_with fail
      refine (sm_accounts HS9.out n62 n63 n12).mono ?_
      rintro e w10 ⟨rfl, hb10⟩
      have HS10 := Lib.hid (HS9.out.next hb10)
      clear HS9 c60 c61 c62 c63 c12 hb10
      by_cases hi6 : i < 6
      · have hi6z : (i : Int) < 6 := by omega
        obtain ⟨n10, c10⟩ := HS10.out.int (b := g10) (o := 0) (by simp [SmN])
        obtain ⟨n11, c11⟩ := HS10.out.int (b := g11) (o := 0) (by simp [SmN])
        go_wp2_with fail
        refine (sm_tariffs HS10.out n10 n11).mono ?_
        rintro e w11 ⟨rfl, hb11⟩
        have HS11 := Lib.hid (HS10.out.next hb11)
        clear HS10 c10 c11 hb11
        go_wp2_with fail
        go_roundw
        case rel => exact ⟨i + 1, by go_num, by omega, HS11.out.bw⟩
        case measure => simp [intOf]; omega
      · have hi6z : ¬ (i : Int) < 6 := by omega
        go_wp2_with fail
        go_roundw
        case rel => exact ⟨i + 1, by go_num, by omega, HS10.out.bw⟩
        case measure => simp [intOf]; omega
    · obtain rfl : i = 22 := by omega
      go_wp2_with fail
      refine (Three_any _).mono ?_
      rintro e w2 ⟨bb, rfl, hbb, hLb, hb2⟩
      have q4 : w2.cell? ⟨bb, 4, none⟩ = some (.int .i64 0) := hLb.at_ (j := 4) (by simp)
      have q4f := hLb.free 4
      have lbb := hLb.lt
      have nbb : ¬ bb = w2.heap.size := by omega
      have nbb' : ¬ w2.heap.size = bb := by omega
      go_upto_region 20 with fail
      have HQ0 := Lib.hid (sq_start (HB.out.trans ((HB2.out.trans (hb2.mono HB2.out.size)).mono HB.out.size)) (by have := HB.out.size; have := HB2.out.size; omega) hLb rfl (t := 27))
      generalize World.alloc (World.setCell w2 _ _) _ = W3 at HQ0 ⊢
      clear q4 q4f lbb nbb nbb' hb2 hLb hbb
      generalize w2.heap.size = g14 at HQ0 ⊢
      have c0 := HQ0.out.c0
      have c1 := HQ0.out.c1
      go_wp2_with fail
      refine (sq_appeals HQ0.out 0 4 v).mono ?_
      rintro e w4 ⟨rfl, hb4⟩
      have HQ1 := Lib.hid (HQ0.out.next hb4)
      clear HQ0 c0 c1 hb4
      have c0 := HQ1.out.c0
      have c1 := HQ1.out.c1
      go_wp2_with fail
      refine (sq_appeals HQ1.out 1 v 1).mono ?_
      rintro e w5 ⟨rfl, hb5⟩
      have HQ2 := Lib.hid (HQ1.out.next hb5)
      clear HQ1 c0 c1 hb5
      have c0 := HQ2.out.c0
      have c1 := HQ2.out.c1
      go_wp2_with fail
      refine (sq_appeals HQ2.out v 2 3).mono ?_
      rintro e w6 ⟨rfl, hb6⟩
      have HQ3 := Lib.hid (HQ2.out.next hb6)
      clear HQ2 c0 c1 hb6
      go_wp2_with fail
      exact HK.out _ _ _ _ _ _ _ _ _ _ _ _ _ _ _ _ _ _ _ _ _ _ _ _ _ _ _ _ _ _ _ _ _ _ _ _ _ _ _ _ _ _ _ _ _ _ _ _ _ _ _ _ _ _ _ _ _ _ _ _ _ _ _ _ _ _ _ _ _ _ _ _ _ _ _ _ _ _ _ _ _ _ _ _ _ _ _ _ _ _ _ _ _ _ _ _ _ _ _ _ _ _ _ _ _ _ _ _ _ _ _ _ _ _ _ _ _ _ _ _ _ _ _ _ _ _ _ _ _ _ _ _ _ _ _ _ (Lib.hid HQ3.out.bw)
end Go.Proofs.YtfojjecnmfkcfaaGreat
