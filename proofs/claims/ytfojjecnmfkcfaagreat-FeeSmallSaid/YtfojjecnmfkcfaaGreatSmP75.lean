/- FeeSmall: the last loop's five statements. -/
import Derived.Test.YtfojjecnmfkcfaaGreatSmD
import Derived.Deep.DeepCutAuto
import Derived.StillTailTactics
namespace Go.Proofs.YtfojjecnmfkcfaaGreat
open Go.ChangeShapes Go.WideShapes Go.ChangeAt Go.RowKit Go.Joins
set_option linter.unusedVariables false
set_option maxRecDepth 100000 in
set_option maxHeartbeats 8000000 in
theorem sm_p75 {u0 u1 u2 u3 u4 u5 u6 u7 u8 u9 u10 u11 u12 u13 u14 u15 u16 u17 u18 u19 u20 u21 u22 u23 u28 u29 u30 u31 u32 u33 u34 u35 u36 u37 u38 u39 u40 u41 u42 u43 u44 u45 u46 u47 u48 u49 u50 u51 u52 u53 u54 u55 u56 u57 u58 u59 u60 u61 u62 u63 u64 u65 u66 u67 u68 u69 u70 u71 u72 u73 u74 u75 u76 u77 u78 u79 u80 u81 u82 u83 u84 u85 u86 u87 u88 u89 u90 u91 u92 u93 u94 u95 u96 u97 u98 u99 u100 u101 u102 u103 u104 u105 u106 u107 u108 u109 u110 u111 u112 u113 u114 u115 u116 u117 u118 u119 u120 u121 u122 u123 u124 u125 u126 u127 u128 u129 u130 u131 u132 u133 u134 u135 u136 u137 u138 u139 u140 u141 u142 u143 u144 u145 u146 u147 u148 u149 u150 u151 u152 u153 u154 u155 u156 u157 u158 u159 u160 u161 u162 u163 u164 u165 u166 u167 u168 u169 u170 u171 u172 u173 u174 u175 u176 u177 u178 u179 u180 u181 u182 u183 u184 u185 u186 u187 u188 u189 u190 u191 u192 u193 u194 u195 u196 u197 u198 u199 u200 u201 u202 u203 u204 u205 u206 u207 u208 u209 u210 u211 u212 u213 u214 u215 u216 u217 u218 u219 u220 u221 u222 u223 u224 u225 u226 u227 u228 u229 u230 u231 u232 u233 u234 u235 u236 u237 u238 u239 u240 u241 u242 u243 u244 u245 u246 u247 u248 u249 u250 u251 u252 u253 u254 u255 u256 u257 u258 u259 u260 u261 u262 u263 u264 u265 u266 u267 u268 u269 u270 u271 u272 u273 u274 u275 u276 u277 u278 u279 u280 u281 u282 u283 u284 u285 u286 u287 u288 u289 u290 u291 u292 u293 u294 u295 u296 u297 u298 u299 u300 u301 u302 u303 u304 u305 u306 u307 u308 u309 u310 u311 u312 u313 u314 u315 u316 u317 u318 u319 u320 u321 u322 u323 u324 u325 u326 u327 u328 u329 u330 u331 u332 u333 u334 u335 u336 u337 u338 u339 u340 u341 u342 u343 u344 u345 u346 u347 u348 u349 u350 u351 u352 u353 u354 u355 u356 u357 u358 u359 u360 u361 u362 u363 u364 u365 u366 u367 u368 u369 u370 u371 u372 u373 u374 u375 u376 u377 u378 u379 u380 u381 u382 u383 u384 u385 u386 u387 u388 u389 u390 u391 u392 u393 u394 u395 u396 u397 u398 u399 u400 u401 u402 u403 u404 u405 u406 u407 u408 u409 u410 u411 u412 u413 u414 u415 u416 u417 u418 u419 u420 u421 u422 u423 u424 u425 u426 u427 u428 : Value} {wC wd : World} {gB gA n M6 M8 M10 : Nat} {At : Option Addr} {ct : Nat} {Ab : Option Addr} {cb : Nat} {Ac_ : Option Addr} {cc : Nat} {Ap : Option Addr} {cp : Nat} {K : Act → World → Prop} {Q0 : Exit → Act → World → Prop} (HLd : Hid (Last wC wd gB gA n M6 M8 M10 At ct Ab cb Ac_ cc Ap cp)) (hnz : (n : Int) < 11) (hn0 : (0 : Int) ≤ (n : Int)) (hM6b : M6 ≤ 6) (hM8b : M8 ≤ 8) (hM10b : M10 ≤ 10) (HM8 : Hid (M8 = min n 8))
    (hK : ∀ (x367 x368 x369 x370 x371 x372 x373 x374 x375 x376 x377 x378 x379 x380 x381 x382 x383 x384 x385 x386 x387 x388 x389 x390 x391 x392 x393 x394 x395 : Value) (wx : World), Hid (Below wd.heap.size wd wx) → K ⟨#[u0, u1, u2, u3, u4, u5, u6, u7, u8, u9, u10, u11, u12, u13, u14, u15, u16, u17, u18, u19, u20, u21, u22, u23, .int .i64 n, .slice At M6 ct, .pointer (some ⟨gB, 0, none⟩), .pointer (some ⟨gA, 0, none⟩), u28, u29, u30, u31, u32, u33, u34, u35, u36, u37, u38, u39, u40, u41, u42, u43, u44, u45, u46, u47, u48, u49, u50, u51, u52, u53, u54, u55, u56, u57, u58, u59, u60, u61, u62, u63, u64, u65, u66, u67, u68, u69, u70, u71, u72, u73, u74, u75, u76, u77, u78, u79, u80, u81, u82, u83, u84, u85, u86, u87, u88, u89, u90, u91, u92, u93, u94, u95, u96, u97, u98, u99, u100, u101, u102, u103, u104, u105, u106, u107, u108, u109, u110, u111, u112, u113, u114, u115, u116, u117, u118, u119, u120, u121, u122, u123, u124, u125, u126, u127, u128, u129, u130, u131, u132, u133, u134, u135, u136, u137, u138, u139, u140, u141, u142, u143, u144, u145, u146, u147, u148, u149, u150, u151, u152, u153, u154, u155, u156, u157, u158, u159, u160, u161, u162, u163, u164, u165, u166, u167, u168, u169, u170, u171, u172, u173, u174, u175, u176, u177, u178, u179, u180, u181, u182, u183, u184, u185, u186, u187, u188, u189, u190, u191, u192, u193, u194, u195, u196, u197, u198, u199, u200, u201, u202, u203, u204, u205, u206, u207, u208, u209, u210, u211, u212, u213, u214, u215, u216, u217, u218, u219, u220, u221, u222, u223, u224, u225, u226, u227, u228, u229, u230, u231, u232, u233, u234, u235, u236, u237, u238, u239, u240, u241, u242, u243, u244, u245, u246, u247, u248, u249, u250, u251, u252, u253, u254, u255, u256, u257, u258, u259, u260, u261, u262, u263, u264, u265, u266, u267, u268, u269, u270, u271, u272, u273, u274, u275, u276, u277, u278, u279, u280, u281, u282, u283, u284, u285, u286, u287, u288, u289, u290, u291, u292, u293, u294, u295, u296, u297, u298, u299, u300, u301, u302, u303, u304, u305, u306, u307, u308, u309, u310, u311, u312, u313, u314, u315, u316, u317, u318, u319, u320, u321, u322, u323, u324, u325, u326, u327, u328, u329, u330, u331, u332, u333, u334, u335, u336, u337, u338, u339, u340, u341, u342, u343, u344, u345, u346, u347, u348, u349, u350, u351, u352, u353, u354, u355, u356, u357, u358, u359, u360, u361, u362, u363, u364, u365, u366, x367, x368, x369, x370, x371, x372, x373, x374, x375, x376, x377, x378, x379, x380, x381, x382, x383, x384, x385, x386, x387, x388, x389, x390, x391, x392, x393, x394, x395, .bool false, u397, u398, u399, u400, u401, u402, u403, u404, u405, u406, u407, u408, u409, u410, u411, u412, u413, u414, u415, u416, u417, u418, u419, u420, u421, u422, u423, u424, u425, u426, u427, u428], []⟩ wx) :
    Code.wp Tryz.prog (smReg 75) (Exit.then K Q0) ⟨#[u0, u1, u2, u3, u4, u5, u6, u7, u8, u9, u10, u11, u12, u13, u14, u15, u16, u17, u18, u19, u20, u21, u22, u23, .int .i64 n, .slice At M6 ct, .pointer (some ⟨gB, 0, none⟩), .pointer (some ⟨gA, 0, none⟩), u28, u29, u30, u31, u32, u33, u34, u35, u36, u37, u38, u39, u40, u41, u42, u43, u44, u45, u46, u47, u48, u49, u50, u51, u52, u53, u54, u55, u56, u57, u58, u59, u60, u61, u62, u63, u64, u65, u66, u67, u68, u69, u70, u71, u72, u73, u74, u75, u76, u77, u78, u79, u80, u81, u82, u83, u84, u85, u86, u87, u88, u89, u90, u91, u92, u93, u94, u95, u96, u97, u98, u99, u100, u101, u102, u103, u104, u105, u106, u107, u108, u109, u110, u111, u112, u113, u114, u115, u116, u117, u118, u119, u120, u121, u122, u123, u124, u125, u126, u127, u128, u129, u130, u131, u132, u133, u134, u135, u136, u137, u138, u139, u140, u141, u142, u143, u144, u145, u146, u147, u148, u149, u150, u151, u152, u153, u154, u155, u156, u157, u158, u159, u160, u161, u162, u163, u164, u165, u166, u167, u168, u169, u170, u171, u172, u173, u174, u175, u176, u177, u178, u179, u180, u181, u182, u183, u184, u185, u186, u187, u188, u189, u190, u191, u192, u193, u194, u195, u196, u197, u198, u199, u200, u201, u202, u203, u204, u205, u206, u207, u208, u209, u210, u211, u212, u213, u214, u215, u216, u217, u218, u219, u220, u221, u222, u223, u224, u225, u226, u227, u228, u229, u230, u231, u232, u233, u234, u235, u236, u237, u238, u239, u240, u241, u242, u243, u244, u245, u246, u247, u248, u249, u250, u251, u252, u253, u254, u255, u256, u257, u258, u259, u260, u261, u262, u263, u264, u265, u266, u267, u268, u269, u270, u271, u272, u273, u274, u275, u276, u277, u278, u279, u280, u281, u282, u283, u284, u285, u286, u287, u288, u289, u290, u291, u292, u293, u294, u295, u296, u297, u298, u299, u300, u301, u302, u303, u304, u305, u306, u307, u308, u309, u310, u311, u312, u313, u314, u315, u316, u317, u318, u319, u320, u321, u322, u323, u324, u325, u326, u327, u328, u329, u330, u331, u332, u333, u334, u335, u336, u337, u338, u339, u340, u341, u342, u343, u344, u345, u346, u347, u348, u349, u350, u351, u352, u353, u354, u355, u356, u357, u358, u359, u360, u361, u362, u363, u364, u365, u366, u367, u368, u369, u370, u371, u372, u373, u374, u375, u376, u377, u378, u379, u380, u381, u382, u383, u384, u385, u386, u387, u388, u389, u390, u391, u392, u393, u394, u395, u396, u397, u398, u399, u400, u401, u402, u403, u404, u405, u406, u407, u408, u409, u410, u411, u412, u413, u414, u415, u416, u417, u418, u419, u420, u421, u422, u423, u424, u425, u426, u427, u428], []⟩ wd := by
  conv => arg 2; whnf
  have HK := Lib.hid hK
  clear hK
  have lB := HLd.out.lB
  have lA := HLd.out.lA
  have b0 := HLd.out.b0
  have b1 := HLd.out.b1
  obtain ⟨a0, a1, a2, a3⟩ := HLd.out.k
  refine wp_invN 30 (by kernel_rfl) (by kernel_rfl) (by kernel_rfl) (FL [PEq (.slice At M6 ct), PEq (.bool true), PEq (.bool false), PEq (.bool false), PEq (.agg #[.int .i64 n, .slice Ab M8 cb]), PEq (.bool true), PEq (.bool false), PEq (.bool false), PEq (.bool false), PEq (.agg #[.int .i64 n, .slice Ab M8 cb]), PEq (.int .i64 n), PEq (.int .i64 M8), PZr wd.heap.size M8, PEq (.bool true), PEq (.bool false), PEq (.bool false), PEq (.bool false), PEq (.agg #[.slice Ac_ M10 cc, .slice Ap M10 cp, .int .i64 0, .int .i64 0]), PEq (.int .i64 n), PEq (.bool true), PEq (.bool false), PEq (.bool false), PEq (.bool false), PEq (.pointer (some ⟨gA, 1, none⟩)), PEq (.slice Ap M10 cp), PEq (.agg #[.slice none 0 0, .slice Ap M10 cp, .int .i64 0, .int .i64 0]), PEq (.int .i64 n), PEq (.bool true), PEq (.bool false), PEq (.bool false)])
    (fun x => Below wd.heap.size wd x) (fun x y => Below x.heap.size x y) (FL.keepB (by simp [stbB_eq, stbB_zr])) (below_drew wd) ?_ ?_
  · intro iq o hi' ho listed vals a w5 hdep hM hAt K hK
    have HI := Lib.hid hM.inv
    match iq, hi' with
    | 0, _ =>
      injection ho with ho
      subst ho
      rw [if_pos (wantedN rfl)]
      obtain ⟨e25, e25'⟩ := hAt.slot 25 (by kernel_rfl) (by rfl)
      go_simp
      exact hK _ w5 (Below.refl _ _) HI.out rfl
    | 1, _ =>
      injection ho with ho
      subst ho
      rw [if_pos (wantedN rfl)]
      have l0 := hdep ⟨0, .data⟩ (by simp) rfl
      obtain ⟨x0, x0'⟩ := hAt.dep 0 (d := 367) (by omega) l0 (by rfl) (hM.fact 0 (by omega) l0)
      go_simp
      refine ((HLd.out.next HI.out).tariffs 14 9).mono ?_
      rintro e w6 ⟨rfl, hb6⟩
      exact hK _ w6 hb6 (HI.out.trans (hb6.mono HI.out.size)) rfl
    | 2, _ =>
      injection ho with ho
      subst ho
      rw [if_pos (wantedN rfl)]
      have l1 := hdep ⟨1, .data⟩ (by simp) rfl
      obtain ⟨x1, x1'⟩ := hAt.dep 1 (d := 368) (by omega) l1 (by rfl) (hM.fact 1 (by omega) l1)
      go_simp
      exact hK _ w5 (Below.refl _ _) HI.out rfl
    | 3, _ =>
      injection ho with ho
      subst ho
      rw [if_pos (wantedN rfl)]
      have l2 := hdep ⟨2, .data⟩ (by simp) rfl
      obtain ⟨x2, x2'⟩ := hAt.dep 2 (d := 369) (by omega) l2 (by rfl) (hM.fact 2 (by omega) l2)
      go_simp
      exact hK _ w5 (Below.refl _ _) HI.out rfl
    | 4, _ =>
      injection ho with ho
      subst ho
      have lg := hdep ⟨3, .guard⟩ (by simp) rfl
      obtain ⟨xg, xg'⟩ := hAt.dep 3 (d := 370) (by omega) lg (by rfl) (hM.fact 3 (by omega) lg)
      rw [if_pos (by rw [wantedG rfl (by rfl) xg]; decide)]
      clear xg xg'
      obtain ⟨e26, e26'⟩ := hAt.slot 26 (by kernel_rfl) (by rfl)
      have b0 := HI.out.at_ lB b0
      have b1 := HI.out.at_ lB b1
      go_simp
      exact hK _ w5 (Below.refl _ _) HI.out rfl
    | 5, _ =>
      injection ho with ho
      subst ho
      have lg := hdep ⟨3, .guard⟩ (by simp) rfl
      obtain ⟨xg, xg'⟩ := hAt.dep 3 (d := 370) (by omega) lg (by rfl) (hM.fact 3 (by omega) lg)
      rw [if_pos (by rw [wantedG rfl (by rfl) xg]; decide)]
      clear xg xg'
      have l4 := hdep ⟨4, .data⟩ (by simp) rfl
      obtain ⟨x4, x4'⟩ := hAt.dep 4 (d := 371) (by omega) l4 (by rfl) (hM.fact 4 (by omega) l4)
      go_simp
      refine ((HLd.out.next HI.out).shares).mono ?_
      rintro e w6 ⟨rfl, hb6⟩
      exact hK _ w6 hb6 (HI.out.trans (hb6.mono HI.out.size)) rfl
    | 6, _ =>
      injection ho with ho
      subst ho
      have lg := hdep ⟨3, .guard⟩ (by simp) rfl
      obtain ⟨xg, xg'⟩ := hAt.dep 3 (d := 370) (by omega) lg (by rfl) (hM.fact 3 (by omega) lg)
      rw [if_pos (by rw [wantedG rfl (by rfl) xg]; decide)]
      clear xg xg'
      have l5 := hdep ⟨5, .data⟩ (by simp) rfl
      obtain ⟨x5, x5'⟩ := hAt.dep 5 (d := 372) (by omega) l5 (by rfl) (hM.fact 5 (by omega) l5)
      go_simp
      exact hK _ w5 (Below.refl _ _) HI.out rfl
    | 7, _ =>
      injection ho with ho
      subst ho
      rw [if_pos (wantedN rfl)]
      have l3 := hdep ⟨3, .data⟩ (by simp) rfl
      obtain ⟨x3, x3'⟩ := hAt.dep 3 (d := 370) (by omega) l3 (by rfl) (hM.fact 3 (by omega) l3)
      have l6 := hdep ⟨6, .data⟩ (by simp) rfl
      obtain ⟨x6, x6'⟩ := hAt.dep 6 (d := 373) (by omega) l6 (by rfl) (hM.fact 6 (by omega) l6)
      go_simp
      exact hK _ w5 (Below.refl _ _) HI.out rfl
    | 8, _ =>
      injection ho with ho
      subst ho
      rw [if_pos (wantedN rfl)]
      have l7 := hdep ⟨7, .data⟩ (by simp) rfl
      obtain ⟨x7, x7'⟩ := hAt.dep 7 (d := 374) (by omega) l7 (by rfl) (hM.fact 7 (by omega) l7)
      go_simp
      exact hK _ w5 (Below.refl _ _) HI.out rfl
    | 9, _ =>
      injection ho with ho
      subst ho
      have lg := hdep ⟨8, .guard⟩ (by simp) rfl
      obtain ⟨xg, xg'⟩ := hAt.dep 8 (d := 375) (by omega) lg (by rfl) (hM.fact 8 (by omega) lg)
      rw [if_pos (by rw [wantedG rfl (by rfl) xg]; decide)]
      clear xg xg'
      obtain ⟨e26, e26'⟩ := hAt.slot 26 (by kernel_rfl) (by rfl)
      have b0 := HI.out.at_ lB b0
      have b1 := HI.out.at_ lB b1
      go_simp
      exact hK _ w5 (Below.refl _ _) HI.out rfl
    | 10, _ =>
      injection ho with ho
      subst ho
      have lg := hdep ⟨8, .guard⟩ (by simp) rfl
      obtain ⟨xg, xg'⟩ := hAt.dep 8 (d := 375) (by omega) lg (by rfl) (hM.fact 8 (by omega) lg)
      rw [if_pos (by rw [wantedG rfl (by rfl) xg]; decide)]
      clear xg xg'
      obtain ⟨e24, e24'⟩ := hAt.slot 24 (by kernel_rfl) (by rfl)
      go_simp
      exact hK _ w5 (Below.refl _ _) HI.out rfl
    | 11, _ =>
      injection ho with ho
      subst ho
      have lg := hdep ⟨8, .guard⟩ (by simp) rfl
      obtain ⟨xg, xg'⟩ := hAt.dep 8 (d := 375) (by omega) lg (by rfl) (hM.fact 8 (by omega) lg)
      rw [if_pos (by rw [wantedG rfl (by rfl) xg]; decide)]
      clear xg xg'
      have l10 := hdep ⟨10, .data⟩ (by simp) rfl
      obtain ⟨x10, x10'⟩ := hAt.dep 10 (d := 377) (by omega) l10 (by rfl) (hM.fact 10 (by omega) l10)
      by_cases h8 : (8 : Int) < (n : Int)
      · have e8 : (M8 : Int) = 8 := by have := HM8.out; omega
        have E8 := Lib.hid e8
        clear e8
        go_simp
        exact hK _ w5 (Below.refl _ _) HI.out (by show Value.int _ _ = Value.int _ _; rw [E8.out])
      · have e8 : (M8 : Int) = n := by have := HM8.out; omega
        have E8 := Lib.hid e8
        clear e8
        go_simp
        exact hK _ w5 (Below.refl _ _) HI.out (by show Value.int _ _ = Value.int _ _; rw [E8.out])
    | 12, _ =>
      injection ho with ho
      subst ho
      have lg := hdep ⟨8, .guard⟩ (by simp) rfl
      obtain ⟨xg, xg'⟩ := hAt.dep 8 (d := 375) (by omega) lg (by rfl) (hM.fact 8 (by omega) lg)
      rw [if_pos (by rw [wantedG rfl (by rfl) xg]; decide)]
      clear xg xg'
      have l11 := hdep ⟨11, .data⟩ (by simp) rfl
      obtain ⟨x11, x11'⟩ := hAt.dep 11 (d := 378) (by omega) l11 (by rfl) (hM.fact 11 (by omega) l11)
      have hmk := made_ints M8 w5 (by omega)
      go_simp
      exact hK _ _ (below_new _ _) (HI.out.alloc HI.out.size _) ⟨w5.heap.size, rfl, zr_new _ _ _ _ HI.out.size⟩
    | 13, _ =>
      injection ho with ho
      subst ho
      have lg := hdep ⟨8, .guard⟩ (by simp) rfl
      obtain ⟨xg, xg'⟩ := hAt.dep 8 (d := 375) (by omega) lg (by rfl) (hM.fact 8 (by omega) lg)
      rw [if_pos (by rw [wantedG rfl (by rfl) xg]; decide)]
      clear xg xg'
      have l9 := hdep ⟨9, .data⟩ (by simp) rfl
      obtain ⟨x9, x9'⟩ := hAt.dep 9 (d := 376) (by omega) l9 (by rfl) (hM.fact 9 (by omega) l9)
      have l12 := hdep ⟨12, .data⟩ (by simp) rfl
      obtain ⟨k12, f12, g12⟩ := hM.fact 12 (by omega) l12
      obtain ⟨x12, x12'⟩ := hAt.dep 12 (d := 379) (by omega) l12 (by rfl) f12
      go_simp
      obtain ⟨qs, hq1, hq2⟩ := g12.came
      refine ((HLd.out.next HI.out).given hq2 hq1 1).mono ?_
      rintro e w6 ⟨rfl, hb6⟩
      exact hK _ w6 hb6 (HI.out.trans (hb6.mono HI.out.size)) rfl
    | 14, _ =>
      injection ho with ho
      subst ho
      have lg := hdep ⟨8, .guard⟩ (by simp) rfl
      obtain ⟨xg, xg'⟩ := hAt.dep 8 (d := 375) (by omega) lg (by rfl) (hM.fact 8 (by omega) lg)
      rw [if_pos (by rw [wantedG rfl (by rfl) xg]; decide)]
      clear xg xg'
      have l13 := hdep ⟨13, .data⟩ (by simp) rfl
      obtain ⟨x13, x13'⟩ := hAt.dep 13 (d := 380) (by omega) l13 (by rfl) (hM.fact 13 (by omega) l13)
      go_simp
      exact hK _ w5 (Below.refl _ _) HI.out rfl
    | 15, _ =>
      injection ho with ho
      subst ho
      rw [if_pos (wantedN rfl)]
      have l8 := hdep ⟨8, .data⟩ (by simp) rfl
      obtain ⟨x8, x8'⟩ := hAt.dep 8 (d := 375) (by omega) l8 (by rfl) (hM.fact 8 (by omega) l8)
      have l14 := hdep ⟨14, .data⟩ (by simp) rfl
      obtain ⟨x14, x14'⟩ := hAt.dep 14 (d := 381) (by omega) l14 (by rfl) (hM.fact 14 (by omega) l14)
      go_simp
      exact hK _ w5 (Below.refl _ _) HI.out rfl
    | 16, _ =>
      injection ho with ho
      subst ho
      rw [if_pos (wantedN rfl)]
      have l15 := hdep ⟨15, .data⟩ (by simp) rfl
      obtain ⟨x15, x15'⟩ := hAt.dep 15 (d := 382) (by omega) l15 (by rfl) (hM.fact 15 (by omega) l15)
      go_simp
      exact hK _ w5 (Below.refl _ _) HI.out rfl
    | 17, _ =>
      injection ho with ho
      subst ho
      have lg := hdep ⟨16, .guard⟩ (by simp) rfl
      obtain ⟨xg, xg'⟩ := hAt.dep 16 (d := 383) (by omega) lg (by rfl) (hM.fact 16 (by omega) lg)
      rw [if_pos (by rw [wantedG rfl (by rfl) xg]; decide)]
      clear xg xg'
      obtain ⟨e27, e27'⟩ := hAt.slot 27 (by kernel_rfl) (by rfl)
      have a0 := HI.out.at_ lA a0
      have a1 := HI.out.at_ lA a1
      have a2 := HI.out.at_ lA a2
      have a3 := HI.out.at_ lA a3
      go_simp
      exact hK _ w5 (Below.refl _ _) HI.out rfl
    | 18, _ =>
      injection ho with ho
      subst ho
      have lg := hdep ⟨16, .guard⟩ (by simp) rfl
      obtain ⟨xg, xg'⟩ := hAt.dep 16 (d := 383) (by omega) lg (by rfl) (hM.fact 16 (by omega) lg)
      rw [if_pos (by rw [wantedG rfl (by rfl) xg]; decide)]
      clear xg xg'
      obtain ⟨e24, e24'⟩ := hAt.slot 24 (by kernel_rfl) (by rfl)
      go_simp
      exact hK _ w5 (Below.refl _ _) HI.out rfl
    | 19, _ =>
      injection ho with ho
      subst ho
      have lg := hdep ⟨16, .guard⟩ (by simp) rfl
      obtain ⟨xg, xg'⟩ := hAt.dep 16 (d := 383) (by omega) lg (by rfl) (hM.fact 16 (by omega) lg)
      rw [if_pos (by rw [wantedG rfl (by rfl) xg]; decide)]
      clear xg xg'
      have l17 := hdep ⟨17, .data⟩ (by simp) rfl
      obtain ⟨x17, x17'⟩ := hAt.dep 17 (d := 384) (by omega) l17 (by rfl) (hM.fact 17 (by omega) l17)
      have l18 := hdep ⟨18, .data⟩ (by simp) rfl
      obtain ⟨x18, x18'⟩ := hAt.dep 18 (d := 385) (by omega) l18 (by rfl) (hM.fact 18 (by omega) l18)
      go_simp
      refine ((HLd.out.next HI.out).accounts n).mono ?_
      rintro e w6 ⟨rfl, hb6⟩
      exact hK _ w6 hb6 (HI.out.trans (hb6.mono HI.out.size)) rfl
    | 20, _ =>
      injection ho with ho
      subst ho
      have lg := hdep ⟨16, .guard⟩ (by simp) rfl
      obtain ⟨xg, xg'⟩ := hAt.dep 16 (d := 383) (by omega) lg (by rfl) (hM.fact 16 (by omega) lg)
      rw [if_pos (by rw [wantedG rfl (by rfl) xg]; decide)]
      clear xg xg'
      have l19 := hdep ⟨19, .data⟩ (by simp) rfl
      obtain ⟨x19, x19'⟩ := hAt.dep 19 (d := 386) (by omega) l19 (by rfl) (hM.fact 19 (by omega) l19)
      go_simp
      exact hK _ w5 (Below.refl _ _) HI.out rfl
    | 21, _ =>
      injection ho with ho
      subst ho
      rw [if_pos (wantedN rfl)]
      have l16 := hdep ⟨16, .data⟩ (by simp) rfl
      obtain ⟨x16, x16'⟩ := hAt.dep 16 (d := 383) (by omega) l16 (by rfl) (hM.fact 16 (by omega) l16)
      have l20 := hdep ⟨20, .data⟩ (by simp) rfl
      obtain ⟨x20, x20'⟩ := hAt.dep 20 (d := 387) (by omega) l20 (by rfl) (hM.fact 20 (by omega) l20)
      go_simp
      exact hK _ w5 (Below.refl _ _) HI.out rfl
    | 22, _ =>
      injection ho with ho
      subst ho
      rw [if_pos (wantedN rfl)]
      have l21 := hdep ⟨21, .data⟩ (by simp) rfl
      obtain ⟨x21, x21'⟩ := hAt.dep 21 (d := 388) (by omega) l21 (by rfl) (hM.fact 21 (by omega) l21)
      go_simp
      exact hK _ w5 (Below.refl _ _) HI.out rfl
    | 23, _ =>
      injection ho with ho
      subst ho
      have lg := hdep ⟨22, .guard⟩ (by simp) rfl
      obtain ⟨xg, xg'⟩ := hAt.dep 22 (d := 389) (by omega) lg (by rfl) (hM.fact 22 (by omega) lg)
      rw [if_pos (by rw [wantedG rfl (by rfl) xg]; decide)]
      clear xg xg'
      obtain ⟨e27, e27'⟩ := hAt.slot 27 (by kernel_rfl) (by rfl)
      go_simp
      exact hK _ w5 (Below.refl _ _) HI.out rfl
    | 24, _ =>
      injection ho with ho
      subst ho
      have lg := hdep ⟨22, .guard⟩ (by simp) rfl
      obtain ⟨xg, xg'⟩ := hAt.dep 22 (d := 389) (by omega) lg (by rfl) (hM.fact 22 (by omega) lg)
      rw [if_pos (by rw [wantedG rfl (by rfl) xg]; decide)]
      clear xg xg'
      have l23 := hdep ⟨23, .data⟩ (by simp) rfl
      obtain ⟨x23, x23'⟩ := hAt.dep 23 (d := 390) (by omega) l23 (by rfl) (hM.fact 23 (by omega) l23)
      have a0 := HI.out.at_ lA a0
      have a1 := HI.out.at_ lA a1
      have a2 := HI.out.at_ lA a2
      have a3 := HI.out.at_ lA a3
      go_simp
      exact hK _ w5 (Below.refl _ _) HI.out rfl
    | 25, _ =>
      injection ho with ho
      subst ho
      have lg := hdep ⟨22, .guard⟩ (by simp) rfl
      obtain ⟨xg, xg'⟩ := hAt.dep 22 (d := 389) (by omega) lg (by rfl) (hM.fact 22 (by omega) lg)
      rw [if_pos (by rw [wantedG rfl (by rfl) xg]; decide)]
      clear xg xg'
      have l24 := hdep ⟨24, .data⟩ (by simp) rfl
      obtain ⟨x24, x24'⟩ := hAt.dep 24 (d := 391) (by omega) l24 (by rfl) (hM.fact 24 (by omega) l24)
      go_simp
      exact hK _ w5 (Below.refl _ _) HI.out rfl
    | 26, _ =>
      injection ho with ho
      subst ho
      have lg := hdep ⟨22, .guard⟩ (by simp) rfl
      obtain ⟨xg, xg'⟩ := hAt.dep 22 (d := 389) (by omega) lg (by rfl) (hM.fact 22 (by omega) lg)
      rw [if_pos (by rw [wantedG rfl (by rfl) xg]; decide)]
      clear xg xg'
      obtain ⟨e24, e24'⟩ := hAt.slot 24 (by kernel_rfl) (by rfl)
      go_simp
      exact hK _ w5 (Below.refl _ _) HI.out rfl
    | 27, _ =>
      injection ho with ho
      subst ho
      have lg := hdep ⟨22, .guard⟩ (by simp) rfl
      obtain ⟨xg, xg'⟩ := hAt.dep 22 (d := 389) (by omega) lg (by rfl) (hM.fact 22 (by omega) lg)
      rw [if_pos (by rw [wantedG rfl (by rfl) xg]; decide)]
      clear xg xg'
      have l25 := hdep ⟨25, .data⟩ (by simp) rfl
      obtain ⟨x25, x25'⟩ := hAt.dep 25 (d := 392) (by omega) l25 (by rfl) (hM.fact 25 (by omega) l25)
      have l26 := hdep ⟨26, .data⟩ (by simp) rfl
      obtain ⟨x26, x26'⟩ := hAt.dep 26 (d := 393) (by omega) l26 (by rfl) (hM.fact 26 (by omega) l26)
      go_simp
      refine ((HLd.out.next HI.out).payments n).mono ?_
      rintro e w6 ⟨rfl, hb6⟩
      exact hK _ w6 hb6 (HI.out.trans (hb6.mono HI.out.size)) rfl
    | 28, _ =>
      injection ho with ho
      subst ho
      have lg := hdep ⟨22, .guard⟩ (by simp) rfl
      obtain ⟨xg, xg'⟩ := hAt.dep 22 (d := 389) (by omega) lg (by rfl) (hM.fact 22 (by omega) lg)
      rw [if_pos (by rw [wantedG rfl (by rfl) xg]; decide)]
      clear xg xg'
      have l27 := hdep ⟨27, .data⟩ (by simp) rfl
      obtain ⟨x27, x27'⟩ := hAt.dep 27 (d := 394) (by omega) l27 (by rfl) (hM.fact 27 (by omega) l27)
      go_simp
      exact hK _ w5 (Below.refl _ _) HI.out rfl
    | 29, _ =>
      injection ho with ho
      subst ho
      rw [if_pos (wantedN rfl)]
      have l22 := hdep ⟨22, .data⟩ (by simp) rfl
      obtain ⟨x22, x22'⟩ := hAt.dep 22 (d := 389) (by omega) l22 (by rfl) (hM.fact 22 (by omega) l22)
      have l28 := hdep ⟨28, .data⟩ (by simp) rfl
      obtain ⟨x28, x28'⟩ := hAt.dep 28 (d := 395) (by omega) l28 (by rfl) (hM.fact 28 (by omega) l28)
      go_simp
      exact hK _ w5 (Below.refl _ _) HI.out rfl
    | jq + 30, hq => exact absurd hq (by omega)
  · intro vals w5 hF hI
    have HI := Lib.hid hI
    have f29 : vals 29 = .bool false := hF 29 (by omega)
    clear hF hI
    simp only [putAll, List.range, List.range.loop, List.foldl_cons, List.foldl_nil, f29]
    clear f29
    change (_ : Exit → Act → World → Prop) _ (Act.put (Act.put (Act.put (Act.put (Act.put (Act.put (Act.put (Act.put (Act.put (Act.put (Act.put (Act.put (Act.put (Act.put (Act.put (Act.put (Act.put (Act.put (Act.put (Act.put (Act.put (Act.put (Act.put (Act.put (Act.put (Act.put (Act.put (Act.put (Act.put (Act.put _ (some 367) _) (some 368) _) (some 369) _) (some 370) _) (some 371) _) (some 372) _) (some 373) _) (some 374) _) (some 375) _) (some 376) _) (some 377) _) (some 378) _) (some 379) _) (some 380) _) (some 381) _) (some 382) _) (some 383) _) (some 384) _) (some 385) _) (some 386) _) (some 387) _) (some 388) _) (some 389) _) (some 390) _) (some 391) _) (some 392) _) (some 393) _) (some 394) _) (some 395) _) (some 396) _) _
    simp only [Act.put, List.setIfInBounds_toArray, List.set_cons_zero, List.set_cons_succ]
    go_wp2_with fail
    exact HK.out _ _ _ _ _ _ _ _ _ _ _ _ _ _ _ _ _ _ _ _ _ _ _ _ _ _ _ _ _ _ HI.out
end Go.Proofs.YtfojjecnmfkcfaaGreat
