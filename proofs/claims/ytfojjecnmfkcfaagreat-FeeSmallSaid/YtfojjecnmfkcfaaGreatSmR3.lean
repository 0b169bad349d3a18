/- FeeSmall: a round of its second loop. -/
import Derived.Test.YtfojjecnmfkcfaaGreatSmD
import Derived.Deep.DeepCutAuto
import Derived.StillTailTactics
namespace Go.Proofs.YtfojjecnmfkcfaaGreat
open Go.ChangeShapes Go.WideShapes Go.ChangeAt Go.RowKit Go.Joins
set_option linter.unusedVariables false
set_option maxRecDepth 100000 in
set_option maxHeartbeats 8000000 in
theorem sm_r3 {u0 u1 u2 u3 u4 u5 u6 u7 u8 u9 u10 u11 u12 u13 u14 u15 u16 u17 u18 u19 u20 u21 u22 u23 u24 u25 u26 u27 u28 u29 u30 u31 u32 u33 u34 u35 u36 u37 u38 u39 u40 u41 u42 u43 u44 u45 u46 u47 u48 u49 u50 u51 u52 u53 u54 u55 u56 u57 u58 u59 u60 u61 u62 u63 u64 u65 u66 u67 u68 u69 u70 u71 u72 u73 u74 u75 u76 u77 u78 u79 u80 u81 u82 u83 u84 u85 u86 u87 u88 u89 u90 u91 u92 u93 u94 u95 u96 u97 u98 u99 u100 u101 u102 u103 u104 u105 u106 u107 u108 u109 u110 u111 u112 u113 u114 u115 u116 u117 u118 u119 u120 u121 u122 u123 u124 u125 u126 u127 u128 u129 u130 u131 u132 u133 u134 u135 u136 u137 u138 u139 u140 u141 u142 u143 u144 u145 u146 u147 u148 u149 u150 u151 u152 u153 u154 u156 u157 u158 u159 u160 u161 u162 u163 u164 u165 u166 u167 u168 u169 u170 u171 u172 u173 u174 u175 u176 u177 u178 u179 u180 u181 u182 u183 u184 u185 u186 u187 u188 u189 u190 u191 u192 u193 u194 u195 u196 u197 u198 u199 u200 u201 u202 u203 u204 u205 u206 u207 u208 u209 u210 u211 u212 u213 u214 u215 u216 u217 u218 u219 u220 u221 u222 u223 u224 u225 u226 u227 u228 u229 u230 u231 u232 u233 u234 u235 u236 u237 u238 u239 u240 u241 u242 u243 u244 u245 u246 u247 u248 u249 u250 u251 u252 u253 u254 u255 u256 u257 u258 u259 u260 u261 u262 u263 u264 u265 u266 u267 u268 u269 u270 u271 u272 u273 u274 u275 u276 u277 u278 u279 u280 u281 u282 u283 u284 u285 u286 u287 u288 u289 u290 u291 u292 u293 u294 u295 u296 u297 u298 u299 u300 u301 u302 u303 u304 u305 u306 u307 u308 u309 u310 u311 u312 u313 u314 u315 u316 u317 u318 u319 u320 u321 u322 u323 u324 u325 u326 u327 u328 u329 u330 u331 u332 u333 u334 u335 u336 u337 u338 u339 u340 u341 u342 u343 u344 u345 u346 u347 u348 u349 u350 u351 u352 u353 u354 u355 u356 u357 u358 u359 u360 u361 u362 u363 u364 u365 u366 u367 u368 u369 u370 u371 u372 u373 u374 u375 u376 u377 u378 u379 u380 u381 u382 u383 u384 u385 u386 u387 u388 u389 u390 u391 u392 u393 u394 u395 u396 u397 u398 u399 u400 u401 u402 u403 u404 u405 u406 u407 u408 u409 u410 u411 u412 u413 u414 u415 u416 u417 u418 u419 u420 u421 u422 u423 u424 u425 u426 u427 u428 : Value} {wA wr : World} {n : Nat} {K : Act → World → Prop} {Q0 : Exit → Act → World → Prop} (HB : Hid (Below wA.heap.size wA wr)) (hlt : n < 300)
    (hK : ∀ (x15 x16 x17 x18 x19 x20 x21 x22 x23 x156 x157 x158 x159 x160 x161 x162 x163 x164 x165 x166 x167 x168 x169 x170 x171 x172 x173 x174 x175 x176 x177 x178 x179 x180 x181 x182 x183 x184 x185 x186 x187 x188 x189 x190 x191 x192 x193 x194 x195 x196 x197 x198 x199 x200 x201 x202 x203 x204 x205 x206 x207 x208 x209 x210 x211 x212 x213 x214 x215 x216 x217 x218 x219 x220 x221 x222 x223 x224 x225 x226 x227 x228 x229 x230 x231 x232 x233 x234 x235 x236 x237 x238 x239 x240 x241 x242 x243 x244 x245 x246 x247 x248 x249 x250 x251 x252 x253 x254 x255 x256 x257 x258 x259 x260 x261 x262 x263 x264 x265 x266 x267 x268 x269 x270 x271 x272 x273 x274 x275 x276 x277 x278 x279 x280 x281 x282 x283 x284 x285 x286 x287 x288 x289 x290 x291 x292 x293 x294 x295 x296 x297 x298 x299 x300 x301 x302 x303 x304 x305 x306 x307 x308 x309 x310 x311 x312 x313 : Value) (wx : World), Hid (Below wA.heap.size wA wx) → K ⟨#[u0, u1, u2, u3, u4, u5, u6, u7, u8, u9, u10, u11, u12, u13, u14, x15, x16, x17, x18, x19, x20, x21, x22, x23, u24, u25, u26, u27, u28, u29, u30, u31, u32, u33, u34, u35, u36, u37, u38, u39, u40, u41, u42, u43, u44, u45, u46, u47, u48, u49, u50, u51, u52, u53, u54, u55, u56, u57, u58, u59, u60, u61, u62, u63, u64, u65, u66, u67, u68, u69, u70, u71, u72, u73, u74, u75, u76, u77, u78, u79, u80, u81, u82, u83, u84, u85, u86, u87, u88, u89, u90, u91, u92, u93, u94, u95, u96, u97, u98, u99, u100, u101, u102, u103, u104, u105, u106, u107, u108, u109, u110, u111, u112, u113, u114, u115, u116, u117, u118, u119, u120, u121, u122, u123, u124, u125, u126, u127, u128, u129, u130, u131, u132, u133, u134, u135, u136, u137, u138, u139, u140, u141, u142, u143, u144, u145, u146, u147, u148, u149, u150, u151, u152, u153, u154, .int .i64 ((n : Int) + 1), x156, x157, x158, x159, x160, x161, x162, x163, x164, x165, x166, x167, x168, x169, x170, x171, x172, x173, x174, x175, x176, x177, x178, x179, x180, x181, x182, x183, x184, x185, x186, x187, x188, x189, x190, x191, x192, x193, x194, x195, x196, x197, x198, x199, x200, x201, x202, x203, x204, x205, x206, x207, x208, x209, x210, x211, x212, x213, x214, x215, x216, x217, x218, x219, x220, x221, x222, x223, x224, x225, x226, x227, x228, x229, x230, x231, x232, x233, x234, x235, x236, x237, x238, x239, x240, x241, x242, x243, x244, x245, x246, x247, x248, x249, x250, x251, x252, x253, x254, x255, x256, x257, x258, x259, x260, x261, x262, x263, x264, x265, x266, x267, x268, x269, x270, x271, x272, x273, x274, x275, x276, x277, x278, x279, x280, x281, x282, x283, x284, x285, x286, x287, x288, x289, x290, x291, x292, x293, x294, x295, x296, x297, x298, x299, x300, x301, x302, x303, x304, x305, x306, x307, x308, x309, x310, x311, x312, x313, u314, u315, u316, u317, u318, u319, u320, u321, u322, u323, u324, u325, u326, u327, u328, u329, u330, u331, u332, u333, u334, u335, u336, u337, u338, u339, u340, u341, u342, u343, u344, u345, u346, u347, u348, u349, u350, u351, u352, u353, u354, u355, u356, u357, u358, u359, u360, u361, u362, u363, u364, u365, u366, u367, u368, u369, u370, u371, u372, u373, u374, u375, u376, u377, u378, u379, u380, u381, u382, u383, u384, u385, u386, u387, u388, u389, u390, u391, u392, u393, u394, u395, u396, u397, u398, u399, u400, u401, u402, u403, u404, u405, u406, u407, u408, u409, u410, u411, u412, u413, u414, u415, u416, u417, u418, u419, u420, u421, u422, u423, u424, u425, u426, u427, u428], []⟩ wx) :
    Code.wp Tryz.prog (smBody 1) (Exit.then K Q0) ⟨#[u0, u1, u2, u3, u4, u5, u6, u7, u8, u9, u10, u11, u12, u13, u14, u15, u16, u17, u18, u19, u20, u21, u22, u23, u24, u25, u26, u27, u28, u29, u30, u31, u32, u33, u34, u35, u36, u37, u38, u39, u40, u41, u42, u43, u44, u45, u46, u47, u48, u49, u50, u51, u52, u53, u54, u55, u56, u57, u58, u59, u60, u61, u62, u63, u64, u65, u66, u67, u68, u69, u70, u71, u72, u73, u74, u75, u76, u77, u78, u79, u80, u81, u82, u83, u84, u85, u86, u87, u88, u89, u90, u91, u92, u93, u94, u95, u96, u97, u98, u99, u100, u101, u102, u103, u104, u105, u106, u107, u108, u109, u110, u111, u112, u113, u114, u115, u116, u117, u118, u119, u120, u121, u122, u123, u124, u125, u126, u127, u128, u129, u130, u131, u132, u133, u134, u135, u136, u137, u138, u139, u140, u141, u142, u143, u144, u145, u146, u147, u148, u149, u150, u151, u152, u153, u154, .int .i64 n, u156, u157, u158, u159, u160, u161, u162, u163, u164, u165, u166, u167, u168, u169, u170, u171, u172, u173, u174, u175, u176, u177, u178, u179, u180, u181, u182, u183, u184, u185, u186, u187, u188, u189, u190, u191, u192, u193, u194, u195, u196, u197, u198, u199, u200, u201, u202, u203, u204, u205, u206, u207, u208, u209, u210, u211, u212, u213, u214, u215, u216, u217, u218, u219, u220, u221, u222, u223, u224, u225, u226, u227, u228, u229, u230, u231, u232, u233, u234, u235, u236, u237, u238, u239, u240, u241, u242, u243, u244, u245, u246, u247, u248, u249, u250, u251, u252, u253, u254, u255, u256, u257, u258, u259, u260, u261, u262, u263, u264, u265, u266, u267, u268, u269, u270, u271, u272, u273, u274, u275, u276, u277, u278, u279, u280, u281, u282, u283, u284, u285, u286, u287, u288, u289, u290, u291, u292, u293, u294, u295, u296, u297, u298, u299, u300, u301, u302, u303, u304, u305, u306, u307, u308, u309, u310, u311, u312, u313, u314, u315, u316, u317, u318, u319, u320, u321, u322, u323, u324, u325, u326, u327, u328, u329, u330, u331, u332, u333, u334, u335, u336, u337, u338, u339, u340, u341, u342, u343, u344, u345, u346, u347, u348, u349, u350, u351, u352, u353, u354, u355, u356, u357, u358, u359, u360, u361, u362, u363, u364, u365, u366, u367, u368, u369, u370, u371, u372, u373, u374, u375, u376, u377, u378, u379, u380, u381, u382, u383, u384, u385, u386, u387, u388, u389, u390, u391, u392, u393, u394, u395, u396, u397, u398, u399, u400, u401, u402, u403, u404, u405, u406, u407, u408, u409, u410, u411, u412, u413, u414, u415, u416, u417, u418, u419, u420, u421, u422, u423, u424, u425, u426, u427, u428], []⟩ wr := by
  conv => arg 2; whnf
  have HK := Lib.hid hK
  clear hK
  have hnz : (n : Int) < 300 := by omega
  have hn0 : (0 : Int) ≤ (n : Int) := by omega
  go_wp2_with fail
  have HW : Hid (∀ W, W = wr.alloc (.cells #[.int .i64 ((n : Int) % 23), .slice none 0 0] 27) → Col W W wr.heap.size 1 2 37 3 (fun _ => .int .i64 ((n : Int) % 23)) 0 (trips []) (.slice none 0 0) ∧ Below wr.heap.size wr W ∧ wr.heap.size < W.heap.size) := by
    show ∀ W, _
    rintro W rfl
    have k := fun j u (h : [Value.int .i64 ((n : Int) % 23), .slice none 0 0][j]? = some u) => new_cell wr _ 27 _ j rfl h
    refine ⟨col_start (by simp) (fun j hj => ?_) (fun j hj => new_free _ _ _ _ _ rfl), below_new _ _, by simp⟩
    match j, hj with
    | 0, _ => exact k 0 _ rfl
    | 1, _ => exact k 1 _ rfl
  generalize hwm : World.alloc wr _ = wm
  obtain ⟨hc0, hbm, zm⟩ := HW.out wm hwm.symm
  have HC0 := Lib.hid hc0
  have HBM := Lib.hid (HB.out.trans (hbm.mono HB.out.size))
  have HGE : Hid (wA.heap.size ≤ wr.heap.size) := HB.out.size
  generalize wr.heap.size = gB at HC0 HGE zm ⊢
  clear hwm HW hc0 hbm HB
  generalize hp : (n : Int) % 23 = p at HC0 ⊢
  clear hp
  obtain ⟨N4, hN4⟩ : ∃ N4 : Nat, (1 : Int) + (n : Int) % 4 = (N4 : Int) := ⟨1 + n % 4, by omega⟩
  have hN4b : N4 ≤ 4 := by omega
  have HN4 := Lib.hid hN4
  rw [hN4]
  clear hN4
  obtain ⟨i0, ih0, ih1, ih2, ih3⟩ := info_parts infoHouseS
  go_loopw [164] (fun iv wr => ∃ (i : Nat) (hs : List (Int × Int × Int)) (v : Value), iv = .int .i64 i ∧ i ≤ N4 ∧ Hid (hs.length = i) ∧ Hid (Col wm wr gB 1 2 37 3 (fun _ => .int .i64 p) i (trips hs) v)) (fun iv _ => N4 - (intOf iv).toNat)
  case atStart => exact ⟨0, [], _, rfl, by simp, rfl, HC0.out⟩
  case round =>
    obtain ⟨i, hs, v, rfl, hl, HL, HC⟩ := hrel
    by_cases hil : i < N4
    · have hilz : (i : Int) < N4 := by omega
      have hi0 : (0 : Int) ≤ (i : Int) := by omega
      have hi4 : (i : Int) ≤ 4 := by omega
      have o1 := HC.out.o 1 (by omega)
      rw [if_pos rfl] at o1
      have lz := Nat.lt_of_lt_of_le zm HC.out.far.sz
      go_upto_region 31 with fail
      generalize Int.tmod (wrap64 ((n : Int) / ((i : Int) + 1))) 5 = z18
      refine wp_inv 17 (by kernel_rfl) (by kernel_rfl) (by kernel_rfl) (by decide) (FL [PEq (.pointer (some ⟨gB, 1, none⟩)), PEq (v), PEq (.int .i64 n), PEq (.int .i64 i), PEq (.int .i64 ((i : Int) + 2)), PInt, PInt, PEq (.int .i64 z18), PEq (.int .i64 z18), PEq (.int .i64 n), PEq (.int .i64 i), PEq (.int .i64 ((i : Int) + 3)), PInt, PInt, PInt, PAg3, PRo3 wr.heap.size])
        (fun x => Below wr.heap.size wr x) (fun x y => Below x.heap.size x y) (FL.keepB (by simp [stbB_ag3, stbB_eq, stbB_int, stbB_ro3])) (below_drew wr) ?_ ?_
      · intro iq o hi' ho listed vals a w5 hdep hM hAt K hK
        have HI := Lib.hid hM.inv
        match iq, hi' with
        | 0, _ =>
          injection ho with ho
          subst ho
          obtain ⟨e16, e16'⟩ := hAt.slot 16 (by kernel_rfl) (by rfl)
          go_simp
          exact hK _ w5 (Below.refl _ _) HI.out rfl
        | 1, _ =>
          injection ho with ho
          subst ho
          have l0 := hdep ⟨0, .data⟩ (by simp) rfl
          obtain ⟨x0, x0'⟩ := hAt.dep 0 (d := 172) (by omega) l0 (by rfl) (hM.fact 0 (by omega) l0)
          have o1 := HI.out.at_ lz o1
          go_simp
          exact hK _ w5 (Below.refl _ _) HI.out rfl
        | 2, _ =>
          injection ho with ho
          subst ho
          obtain ⟨e15, e15'⟩ := hAt.slot 15 (by kernel_rfl) (by rfl)
          go_simp
          exact hK _ w5 (Below.refl _ _) HI.out rfl
        | 3, _ =>
          injection ho with ho
          subst ho
          obtain ⟨e17, e17'⟩ := hAt.slot 17 (by kernel_rfl) (by rfl)
          go_simp
          exact hK _ w5 (Below.refl _ _) HI.out rfl
        | 4, _ =>
          injection ho with ho
          subst ho
          have l3 := hdep ⟨3, .data⟩ (by simp) rfl
          obtain ⟨x3, x3'⟩ := hAt.dep 3 (d := 175) (by omega) l3 (by rfl) (hM.fact 3 (by omega) l3)
          have z1 : IntKind.i64.wrap ((i : Int) + 2) = (i : Int) + 2 := IntWalk.i64_in _ (by omega)
          go_simp
          exact hK _ w5 (Below.refl _ _) HI.out rfl
        | 5, _ =>
          injection ho with ho
          subst ho
          have l2 := hdep ⟨2, .data⟩ (by simp) rfl
          obtain ⟨x2, x2'⟩ := hAt.dep 2 (d := 174) (by omega) l2 (by rfl) (hM.fact 2 (by omega) l2)
          have l4 := hdep ⟨4, .data⟩ (by simp) rfl
          obtain ⟨x4, x4'⟩ := hAt.dep 4 (d := 176) (by omega) l4 (by rfl) (hM.fact 4 (by omega) l4)
          go_simp
          exact hK _ w5 (Below.refl _ _) HI.out ⟨_, rfl⟩
        | 6, _ =>
          injection ho with ho
          subst ho
          have l5 := hdep ⟨5, .data⟩ (by simp) rfl
          obtain ⟨d5, f5⟩ := hM.fact 5 (by omega) l5
          obtain ⟨x5, x5'⟩ := hAt.dep 5 (d := 177) (by omega) l5 (by rfl) f5
          go_simp
          exact hK _ w5 (Below.refl _ _) HI.out ⟨_, rfl⟩
        | 7, _ =>
          injection ho with ho
          subst ho
          obtain ⟨e18, e18'⟩ := hAt.slot 18 (by kernel_rfl) (by rfl)
          go_simp
          exact hK _ w5 (Below.refl _ _) HI.out rfl
        | 8, _ =>
          injection ho with ho
          subst ho
          obtain ⟨e18, e18'⟩ := hAt.slot 18 (by kernel_rfl) (by rfl)
          go_simp
          exact hK _ w5 (Below.refl _ _) HI.out rfl
        | 9, _ =>
          injection ho with ho
          subst ho
          obtain ⟨e15, e15'⟩ := hAt.slot 15 (by kernel_rfl) (by rfl)
          go_simp
          exact hK _ w5 (Below.refl _ _) HI.out rfl
        | 10, _ =>
          injection ho with ho
          subst ho
          obtain ⟨e17, e17'⟩ := hAt.slot 17 (by kernel_rfl) (by rfl)
          go_simp
          exact hK _ w5 (Below.refl _ _) HI.out rfl
        | 11, _ =>
          injection ho with ho
          subst ho
          have l10 := hdep ⟨10, .data⟩ (by simp) rfl
          obtain ⟨x10, x10'⟩ := hAt.dep 10 (d := 182) (by omega) l10 (by rfl) (hM.fact 10 (by omega) l10)
          have z2 : IntKind.i64.wrap ((i : Int) + 3) = (i : Int) + 3 := IntWalk.i64_in _ (by omega)
          go_simp
          exact hK _ w5 (Below.refl _ _) HI.out rfl
        | 12, _ =>
          injection ho with ho
          subst ho
          have l9 := hdep ⟨9, .data⟩ (by simp) rfl
          obtain ⟨x9, x9'⟩ := hAt.dep 9 (d := 181) (by omega) l9 (by rfl) (hM.fact 9 (by omega) l9)
          have l11 := hdep ⟨11, .data⟩ (by simp) rfl
          obtain ⟨x11, x11'⟩ := hAt.dep 11 (d := 183) (by omega) l11 (by rfl) (hM.fact 11 (by omega) l11)
          go_simp
          exact hK _ w5 (Below.refl _ _) HI.out ⟨_, rfl⟩
        | 13, _ =>
          injection ho with ho
          subst ho
          have l12 := hdep ⟨12, .data⟩ (by simp) rfl
          obtain ⟨d12, f12⟩ := hM.fact 12 (by omega) l12
          obtain ⟨x12, x12'⟩ := hAt.dep 12 (d := 184) (by omega) l12 (by rfl) f12
          go_simp
          exact hK _ w5 (Below.refl _ _) HI.out ⟨_, rfl⟩
        | 14, _ =>
          injection ho with ho
          subst ho
          have l8 := hdep ⟨8, .data⟩ (by simp) rfl
          obtain ⟨x8, x8'⟩ := hAt.dep 8 (d := 180) (by omega) l8 (by rfl) (hM.fact 8 (by omega) l8)
          have l13 := hdep ⟨13, .data⟩ (by simp) rfl
          obtain ⟨d13, f13⟩ := hM.fact 13 (by omega) l13
          obtain ⟨x13, x13'⟩ := hAt.dep 13 (d := 185) (by omega) l13 (by rfl) f13
          go_simp
          exact hK _ w5 (Below.refl _ _) HI.out ⟨_, rfl⟩
        | 15, _ =>
          injection ho with ho
          subst ho
          have l6 := hdep ⟨6, .data⟩ (by simp) rfl
          obtain ⟨d6, f6⟩ := hM.fact 6 (by omega) l6
          obtain ⟨x6, x6'⟩ := hAt.dep 6 (d := 178) (by omega) l6 (by rfl) f6
          have l7 := hdep ⟨7, .data⟩ (by simp) rfl
          obtain ⟨x7, x7'⟩ := hAt.dep 7 (d := 179) (by omega) l7 (by rfl) (hM.fact 7 (by omega) l7)
          have l14 := hdep ⟨14, .data⟩ (by simp) rfl
          obtain ⟨d14, f14⟩ := hM.fact 14 (by omega) l14
          obtain ⟨x14, x14'⟩ := hAt.dep 14 (d := 186) (by omega) l14 (by rfl) f14
          go_simp
          exact hK _ w5 (Below.refl _ _) HI.out ⟨_, _, _, rfl⟩
        | 16, _ =>
          injection ho with ho
          subst ho
          have l15 := hdep ⟨15, .data⟩ (by simp) rfl
          obtain ⟨ax, bx, cx, f15⟩ := hM.fact 15 (by omega) l15
          obtain ⟨x15, x15'⟩ := hAt.dep 15 (d := 187) (by omega) l15 (by rfl) f15
          go_simp
          exact hK _ _ (below_new _ _) (HI.out.alloc HI.out.size _) ⟨ax, bx, cx, w5.heap.size, rfl, HI.out.size, by simp, news_new w5 [.int .i64 ax, .int .i64 bx, .int .i64 cx] _ rfl⟩
        | jq + 17, hq => exact absurd hq (by omega)
      · intro vals w5 hM
        have HI := Lib.hid hM.inv
        have f0 : vals 0 = .pointer (some ⟨gB, 1, none⟩) := hM.all (by decide) 0 (by omega)
        have f1 : vals 1 = v := hM.all (by decide) 1 (by omega)
        have f2 : vals 2 = .int .i64 n := hM.all (by decide) 2 (by omega)
        have f3 : vals 3 = .int .i64 i := hM.all (by decide) 3 (by omega)
        have f4 : vals 4 = .int .i64 ((i : Int) + 2) := hM.all (by decide) 4 (by omega)
        have f7 : vals 7 = .int .i64 z18 := hM.all (by decide) 7 (by omega)
        have f8 : vals 8 = .int .i64 z18 := hM.all (by decide) 8 (by omega)
        have f9 : vals 9 = .int .i64 n := hM.all (by decide) 9 (by omega)
        have f10 : vals 10 = .int .i64 i := hM.all (by decide) 10 (by omega)
        have f11 : vals 11 = .int .i64 ((i : Int) + 3) := hM.all (by decide) 11 (by omega)
        obtain ⟨ax, bx, cx, kx, f16, g1, g2, g3⟩ := hM.all (by decide) 16 (by omega)
        clear hM
        simp only [putAll, List.range, List.range.loop, List.foldl_cons, List.foldl_nil, f0, f1, f2, f3, f4, f7, f8, f9, f10, f11, f16]
        clear f0 f1 f2 f3 f4 f7 f8 f9 f10 f11 f16
        change wpAny _ _ _ _ _ _ (Act.put (Act.put (Act.put (Act.put (Act.put (Act.put (Act.put (Act.put (Act.put (Act.put (Act.put (Act.put (Act.put (Act.put (Act.put (Act.put (Act.put _ (some 172) _) (some 173) _) (some 174) _) (some 175) _) (some 176) _) (some 177) _) (some 178) _) (some 179) _) (some 180) _) (some 181) _) (some 182) _) (some 183) _) (some 184) _) (some 185) _) (some 186) _) (some 187) _) (some 188) _) _
        simp only [Act.put, List.setIfInBounds_toArray, List.set_cons_zero, List.set_cons_succ]
        have HC5 := Lib.hid (HC.out.next HI.out)
        have hsz5 := HC5.out.far.sz
        clear HC HI o1
        refine tail_step 17 _ (by kernel_rfl) rfl rfl (fun K' hK => ?_)
        refine wp_append_lies w5 _ _ _ rfl wm.heap.size 37 i0 _ 3 24 Tryz.underlying25 ih0 ih1 ih2 ih3 rfl (by decide) _ i (trips hs) rfl HC5.out.own ⟨kx, 0, none⟩ 1 1 [.int .i64 ax, .int .i64 bx, .int .i64 cx] rfl rfl g3 (by simp [Value.oneCell']) (by omega) (by simp only [maxLen]; omega) (by omega) hsz5 _ rfl ?_
        intro g17 cap17 w8 hown1 hgrow1 hat hlt8
        refine hK _ _ ?_
        clear hK K' hsz5 g3
        have M := Col.app HC5.out (by omega) hown1 hgrow1
        obtain ⟨u1, m1⟩ := M.o1
        have m2 := M.of
        have M2 := Lib.hid M.st
        clear M hown1 hgrow1 hat HC5 hlt8
        refine tail_step 18 _ (by kernel_rfl) rfl rfl (fun K' hK => ?_)
        go_simp
        refine hK _ _ ?_
        clear hK K'
        refine tail_step 19 _ (by kernel_rfl) rfl rfl (fun K' hK => ?_)
        go_simp
        refine hK _ _ ?_
        clear hK K'
        refine wpAny_done (by kernel_rfl) ?_ _
        go_wp2_with fail
        go_roundw
        case rel => exact ⟨i + 1, hs ++ [(ax, bx, cx)], _, by go_num, by omega, by show _ = _; simp [HL.out], by rw [trips_app]; exact M2.out⟩
        case measure => simp [intOf]; omega
    · obtain rfl : i = N4 := by omega
      clear hil hl
      rw [← HL.out] at HC
      obtain ⟨A, c, rfl, hBl⟩ := bl_of HC.out HBM.out HGE.out
      have HBl := Lib.hid hBl
      have HH5 : Hid (hs.length ≤ 1000) := by show _ ≤ _; have := HL.out; omega
      clear hBl HC
      obtain ⟨wr, hwr⟩ : ∃ x, x = wr := ⟨_, rfl⟩
      subst hwr
      clear HC0 HBM HGE zm
      have c0 := HBl.out.c0
      have c1 := HBl.out.c1
      go_wp2_with fail
      refine (Bids_any A c p hs _ HBl.out.rd HH5.out).mono ?_
      rintro e w1 ⟨v1, rfl, ho1, hb1⟩
      have HB1 := Lib.hid hb1
      have HO1 := Lib.hid ho1
      clear c0 c1 ho1 hb1
      go_upto_region 34 with fail
      generalize bidsCode p hs = code
      generalize bidsL p hs = ls at HO1 ⊢
      obtain ⟨A1, c1, rfl, hc1, _⟩ := own_slice HO1.out
      go_cut [208] from 197 to 207 (fun sv wx => ∃ b : Bool, sv = .bool b ∧ (b = true → Hid (1 < ls.length)) ∧ Hid (wx = w1))
      case first =>
        by_cases e0 : code = 0
        · have hb0 : (code == 0) = true := by rw [beq_iff_eq]; exact e0
          have E0 := Lib.hid e0
          clear e0
          by_cases hl1 : 1 < ls.length
          · have hl1z : (1 : Int) < ls.length := by omega
            by_cases h3 : (0 : Int) < (n : Int) % 3
            · go_wp2_with fail
              go_meet
              case rel => exact ⟨true, rfl, fun _ => hl1, rfl⟩
            · go_wp2_with fail
              go_meet
              case rel => exact ⟨false, rfl, fun h => (by cases h), rfl⟩
          · have hl1z : ¬ (1 : Int) < ls.length := by omega
            go_wp2_with fail
            go_meet
            case rel => exact ⟨false, rfl, fun h => (by cases h), rfl⟩
        · have hb0 : (code == 0) = false := by rw [beq_eq_false_iff_ne]; exact e0
          go_wp2_with fail
          go_meet
          case rel => exact ⟨false, rfl, fun h => (by cases h), rfl⟩
      case rest =>
        obtain ⟨bb, rfl, hbt, hwx⟩ := hcut
        obtain rfl : wc = w1 := hwx.out
        clear hwx
        have HBT := Lib.hid hbt
        clear hbt
        go_upto_if 208 with fail
        go_cut [19] from 209 to 218 (fun sv wx => ∃ A1 c1 qs, sv = .slice A1 qs.length c1 ∧ Came wx A1 qs.length c1 (ints qs) ∧ Hid (Below wr.heap.size wr wx))
        case first =>
          cases bb with
          | false =>
            go_wp2_with fail
            go_meet
            case rel => exact ⟨_, _, ls, rfl, ⟨hc1, own_rd HO1.out⟩, HB1.out⟩
          | true =>
            have h1 := (HBT.out rfl).out
            obtain ⟨b, c5, e, hb, _, hL⟩ := own_lst' HO1.out rfl (by omega)
            injection e with e1 e2 e3
            subst e1 e3
            have k0 := hL.at_ (j := 0) (by omega)
            have k1 := hL.at_ (j := 1) h1
            have f0 := hL.free 0
            have f1 := hL.free 1
            have lz := hL.lt
            have h0z : (0 : Int) < ls.length := by omega
            have h1z : (1 : Int) < ls.length := by omega
            have HL := Lib.hid hL
            have HBL : Hid (wr.heap.size ≤ b) := hb
            clear hL
            go_wp2_with fail
            go_meet
            case rel => exact ⟨some ⟨b, 0, none⟩, c1, (ls.set 0 (wrap64 (ls[0] + 1))).set 1 (wrap64 (ls[1] - 1)), by simp, ⟨by simp; omega, ((HL.out.put (j := 0) (by omega) _).put (j := 1) (by simp; omega) _).rd⟩, (HB1.out.setCell (p := ⟨b, 0, none⟩) HBL.out _).setCell (p := ⟨b, 1, none⟩) HBL.out _⟩
        case rest =>
          clear HBT HO1 hc1
          obtain ⟨A3, c3, qs, rfl, hcame, HBc⟩ := hcut
          have HBd := Lib.hid (HBl.out.next HBc.out)
          have HQC := Lib.hid hcame
          clear hcame HBc HBl HB1
          obtain ⟨wd, hwd⟩ : ∃ x, x = wc := ⟨_, rfl⟩
          subst hwd
          have lB := HBd.out.lt
          have c0 := HBd.out.c0
          have c1' := HBd.out.c1
          go_upto_region 37 with fail
          go_cut [255] from 219 to 254 (fun sv wx => sv = .bool false ∧ Hid (Below wd.heap.size wd wx))
          case first =>
            by_cases h5 : (n : Int) % 5 = 0
            · have H5 := Lib.hid h5
              clear h5
              refine wp_invN 37 (by kernel_rfl) (by kernel_rfl) (by kernel_rfl) (FL [PEq (.agg #[.int .i64 p, .slice A hs.length c]), PEq (.bool true), PEq (.bool false), PEq (.bool false), PEq (.agg #[.int .i64 p, .slice A hs.length c]), PEq (.slice A3 qs.length c3), PEq (.int .i64 n), PInt, PEq (.int .i64 n), PInt, PRo4 wd.heap.size, PEq (.pointer (some ⟨gB, 1, none⟩)), PEq (.slice A hs.length c), PEq (.int .i64 hs.length), PSl4 wd.heap.size hs.length, PEq (.int .i64 n), PInt, PInt, PEq (.bool true), PEq (.bool false), PEq (.bool false), PEq (.bool false), PEq (.int .i64 n), PEq (.int .i64 ((n : Int) % 5)), PEq (.bool true), PEq (.bool true), PEq (.agg #[.int .i64 p, .slice A hs.length c]), PEq (.int .i64 n), PInt, PEq (.int .i64 n), PInt, PEq (.int .i64 n), PInt, PEq (.bool true), PEq (.bool false), PEq (.bool false), PEq (.bool false)])
                (fun x => Below wd.heap.size wd x) (fun x y => Below x.heap.size x y) (FL.keepB (by simp [stbB_eq, stbB_int, stbB_ro4, stbB_sl4])) (below_drew wd) ?_ ?_
              · intro iq o hi' ho listed vals a w5 hdep hM hAt K hK
                have HI := Lib.hid hM.inv
                match iq, hi' with
                | 0, _ =>
                  injection ho with ho
                  subst ho
                  rw [if_pos (wantedN rfl)]
                  obtain ⟨e16, e16'⟩ := hAt.slot 16 (by kernel_rfl) (by rfl)
                  have c0 := HI.out.at_ lB c0
                  have c1 := HI.out.at_ lB c1'
                  go_simp
                  exact hK _ w5 (Below.refl _ _) HI.out rfl
                | 1, _ =>
                  injection ho with ho
                  subst ho
                  rw [if_pos (wantedN rfl)]
                  have l0 := hdep ⟨0, .data⟩ (by simp) rfl
                  obtain ⟨x0, x0'⟩ := hAt.dep 0 (d := 219) (by omega) l0 (by rfl) (hM.fact 0 (by omega) l0)
                  go_simp
                  refine (Bl.shares (HBd.out.next HI.out)).mono ?_
                  rintro e w6 ⟨rfl, hb6⟩
                  exact hK _ w6 hb6 (HI.out.trans (hb6.mono HI.out.size)) rfl
                | 2, _ =>
                  injection ho with ho
                  subst ho
                  rw [if_pos (wantedN rfl)]
                  have l1 := hdep ⟨1, .data⟩ (by simp) rfl
                  obtain ⟨x1, x1'⟩ := hAt.dep 1 (d := 220) (by omega) l1 (by rfl) (hM.fact 1 (by omega) l1)
                  go_simp
                  exact hK _ w5 (Below.refl _ _) HI.out rfl
                | 3, _ =>
                  injection ho with ho
                  subst ho
                  rw [if_pos (wantedN rfl)]
                  have l2 := hdep ⟨2, .data⟩ (by simp) rfl
                  obtain ⟨x2, x2'⟩ := hAt.dep 2 (d := 221) (by omega) l2 (by rfl) (hM.fact 2 (by omega) l2)
                  go_simp
                  exact hK _ w5 (Below.refl _ _) HI.out rfl
                | 4, _ =>
                  injection ho with ho
                  subst ho
                  have lg := hdep ⟨3, .guard⟩ (by simp) rfl
                  obtain ⟨xg, xg'⟩ := hAt.dep 3 (d := 222) (by omega) lg (by rfl) (hM.fact 3 (by omega) lg)
                  rw [if_pos (by rw [wantedG rfl (by rfl) xg]; decide)]
                  clear xg xg'
                  obtain ⟨e16, e16'⟩ := hAt.slot 16 (by kernel_rfl) (by rfl)
                  have c0 := HI.out.at_ lB c0
                  have c1 := HI.out.at_ lB c1'
                  go_simp
                  exact hK _ w5 (Below.refl _ _) HI.out rfl
                | 5, _ =>
                  injection ho with ho
                  subst ho
                  have lg := hdep ⟨3, .guard⟩ (by simp) rfl
                  obtain ⟨xg, xg'⟩ := hAt.dep 3 (d := 222) (by omega) lg (by rfl) (hM.fact 3 (by omega) lg)
                  rw [if_pos (by rw [wantedG rfl (by rfl) xg]; decide)]
                  clear xg xg'
                  obtain ⟨e19, e19'⟩ := hAt.slot 19 (by kernel_rfl) (by rfl)
                  go_simp
                  exact hK _ w5 (Below.refl _ _) HI.out rfl
                | 6, _ =>
                  injection ho with ho
                  subst ho
                  have lg := hdep ⟨3, .guard⟩ (by simp) rfl
                  obtain ⟨xg, xg'⟩ := hAt.dep 3 (d := 222) (by omega) lg (by rfl) (hM.fact 3 (by omega) lg)
                  rw [if_pos (by rw [wantedG rfl (by rfl) xg]; decide)]
                  clear xg xg'
                  obtain ⟨e15, e15'⟩ := hAt.slot 15 (by kernel_rfl) (by rfl)
                  go_simp
                  exact hK _ w5 (Below.refl _ _) HI.out rfl
                | 7, _ =>
                  injection ho with ho
                  subst ho
                  have lg := hdep ⟨3, .guard⟩ (by simp) rfl
                  obtain ⟨xg, xg'⟩ := hAt.dep 3 (d := 222) (by omega) lg (by rfl) (hM.fact 3 (by omega) lg)
                  rw [if_pos (by rw [wantedG rfl (by rfl) xg]; decide)]
                  clear xg xg'
                  have l6 := hdep ⟨6, .data⟩ (by simp) rfl
                  obtain ⟨x6, x6'⟩ := hAt.dep 6 (d := 225) (by omega) l6 (by rfl) (hM.fact 6 (by omega) l6)
                  go_simp
                  exact hK _ w5 (Below.refl _ _) HI.out ⟨_, rfl⟩
                | 8, _ =>
                  injection ho with ho
                  subst ho
                  have lg := hdep ⟨3, .guard⟩ (by simp) rfl
                  obtain ⟨xg, xg'⟩ := hAt.dep 3 (d := 222) (by omega) lg (by rfl) (hM.fact 3 (by omega) lg)
                  rw [if_pos (by rw [wantedG rfl (by rfl) xg]; decide)]
                  clear xg xg'
                  obtain ⟨e15, e15'⟩ := hAt.slot 15 (by kernel_rfl) (by rfl)
                  go_simp
                  exact hK _ w5 (Below.refl _ _) HI.out rfl
                | 9, _ =>
                  injection ho with ho
                  subst ho
                  have lg := hdep ⟨3, .guard⟩ (by simp) rfl
                  obtain ⟨xg, xg'⟩ := hAt.dep 3 (d := 222) (by omega) lg (by rfl) (hM.fact 3 (by omega) lg)
                  rw [if_pos (by rw [wantedG rfl (by rfl) xg]; decide)]
                  clear xg xg'
                  have l8 := hdep ⟨8, .data⟩ (by simp) rfl
                  obtain ⟨x8, x8'⟩ := hAt.dep 8 (d := 227) (by omega) l8 (by rfl) (hM.fact 8 (by omega) l8)
                  go_simp
                  exact hK _ w5 (Below.refl _ _) HI.out ⟨_, rfl⟩
                | 10, _ =>
                  injection ho with ho
                  subst ho
                  have lg := hdep ⟨3, .guard⟩ (by simp) rfl
                  obtain ⟨xg, xg'⟩ := hAt.dep 3 (d := 222) (by omega) lg (by rfl) (hM.fact 3 (by omega) lg)
                  rw [if_pos (by rw [wantedG rfl (by rfl) xg]; decide)]
                  clear xg xg'
                  have l7 := hdep ⟨7, .data⟩ (by simp) rfl
                  obtain ⟨d7, f7⟩ := hM.fact 7 (by omega) l7
                  obtain ⟨x7, x7'⟩ := hAt.dep 7 (d := 226) (by omega) l7 (by rfl) f7
                  have l9 := hdep ⟨9, .data⟩ (by simp) rfl
                  obtain ⟨d9, f9⟩ := hM.fact 9 (by omega) l9
                  obtain ⟨x9, x9'⟩ := hAt.dep 9 (d := 228) (by omega) l9 (by rfl) f9
                  go_simp
                  exact hK _ _ (below_new _ _) (HI.out.alloc HI.out.size _) ⟨w5.heap.size, rfl, ro4_new _ _ _ _ _ _ _ HI.out.size⟩
                | 11, _ =>
                  injection ho with ho
                  subst ho
                  have lg := hdep ⟨3, .guard⟩ (by simp) rfl
                  obtain ⟨xg, xg'⟩ := hAt.dep 3 (d := 222) (by omega) lg (by rfl) (hM.fact 3 (by omega) lg)
                  rw [if_pos (by rw [wantedG rfl (by rfl) xg]; decide)]
                  clear xg xg'
                  obtain ⟨e16, e16'⟩ := hAt.slot 16 (by kernel_rfl) (by rfl)
                  go_simp
                  exact hK _ w5 (Below.refl _ _) HI.out rfl
                | 12, _ =>
                  injection ho with ho
                  subst ho
                  have lg := hdep ⟨3, .guard⟩ (by simp) rfl
                  obtain ⟨xg, xg'⟩ := hAt.dep 3 (d := 222) (by omega) lg (by rfl) (hM.fact 3 (by omega) lg)
                  rw [if_pos (by rw [wantedG rfl (by rfl) xg]; decide)]
                  clear xg xg'
                  have l11 := hdep ⟨11, .data⟩ (by simp) rfl
                  obtain ⟨x11, x11'⟩ := hAt.dep 11 (d := 230) (by omega) l11 (by rfl) (hM.fact 11 (by omega) l11)
                  have c0 := HI.out.at_ lB c0
                  have c1 := HI.out.at_ lB c1'
                  go_simp
                  exact hK _ w5 (Below.refl _ _) HI.out rfl
                | 13, _ =>
                  injection ho with ho
                  subst ho
                  have lg := hdep ⟨3, .guard⟩ (by simp) rfl
                  obtain ⟨xg, xg'⟩ := hAt.dep 3 (d := 222) (by omega) lg (by rfl) (hM.fact 3 (by omega) lg)
                  rw [if_pos (by rw [wantedG rfl (by rfl) xg]; decide)]
                  clear xg xg'
                  have l12 := hdep ⟨12, .data⟩ (by simp) rfl
                  obtain ⟨x12, x12'⟩ := hAt.dep 12 (d := 231) (by omega) l12 (by rfl) (hM.fact 12 (by omega) l12)
                  go_simp
                  exact hK _ w5 (Below.refl _ _) HI.out rfl
                | 14, _ =>
                  injection ho with ho
                  subst ho
                  have lg := hdep ⟨3, .guard⟩ (by simp) rfl
                  obtain ⟨xg, xg'⟩ := hAt.dep 3 (d := 222) (by omega) lg (by rfl) (hM.fact 3 (by omega) lg)
                  rw [if_pos (by rw [wantedG rfl (by rfl) xg]; decide)]
                  clear xg xg'
                  have l10 := hdep ⟨10, .data⟩ (by simp) rfl
                  obtain ⟨k10, f10, g10⟩ := hM.fact 10 (by omega) l10
                  obtain ⟨x10, x10'⟩ := hAt.dep 10 (d := 229) (by omega) l10 (by rfl) f10
                  have l13 := hdep ⟨13, .data⟩ (by simp) rfl
                  obtain ⟨x13, x13'⟩ := hAt.dep 13 (d := 232) (by omega) l13 (by rfl) (hM.fact 13 (by omega) l13)
                  have hh4 : (hs.length : Int) ≤ 4 := by have := HL.out; omega
                  have hh0 : (0 : Int) ≤ (hs.length : Int) := by omega
                  go_simp
                  exact hK _ w5 (Below.refl _ _) HI.out ⟨k10, rfl, g10⟩
                | 15, _ =>
                  injection ho with ho
                  subst ho
                  have lg := hdep ⟨3, .guard⟩ (by simp) rfl
                  obtain ⟨xg, xg'⟩ := hAt.dep 3 (d := 222) (by omega) lg (by rfl) (hM.fact 3 (by omega) lg)
                  rw [if_pos (by rw [wantedG rfl (by rfl) xg]; decide)]
                  clear xg xg'
                  obtain ⟨e15, e15'⟩ := hAt.slot 15 (by kernel_rfl) (by rfl)
                  go_simp
                  exact hK _ w5 (Below.refl _ _) HI.out rfl
                | 16, _ =>
                  injection ho with ho
                  subst ho
                  have lg := hdep ⟨3, .guard⟩ (by simp) rfl
                  obtain ⟨xg, xg'⟩ := hAt.dep 3 (d := 222) (by omega) lg (by rfl) (hM.fact 3 (by omega) lg)
                  rw [if_pos (by rw [wantedG rfl (by rfl) xg]; decide)]
                  clear xg xg'
                  have l15 := hdep ⟨15, .data⟩ (by simp) rfl
                  obtain ⟨x15, x15'⟩ := hAt.dep 15 (d := 234) (by omega) l15 (by rfl) (hM.fact 15 (by omega) l15)
                  go_simp
                  exact hK _ w5 (Below.refl _ _) HI.out ⟨_, rfl⟩
                | 17, _ =>
                  injection ho with ho
                  subst ho
                  have lg := hdep ⟨3, .guard⟩ (by simp) rfl
                  obtain ⟨xg, xg'⟩ := hAt.dep 3 (d := 222) (by omega) lg (by rfl) (hM.fact 3 (by omega) lg)
                  rw [if_pos (by rw [wantedG rfl (by rfl) xg]; decide)]
                  clear xg xg'
                  have l16 := hdep ⟨16, .data⟩ (by simp) rfl
                  obtain ⟨d16, f16⟩ := hM.fact 16 (by omega) l16
                  obtain ⟨x16, x16'⟩ := hAt.dep 16 (d := 235) (by omega) l16 (by rfl) f16
                  go_simp
                  exact hK _ w5 (Below.refl _ _) HI.out ⟨_, rfl⟩
                | 18, _ =>
                  injection ho with ho
                  subst ho
                  have lg := hdep ⟨3, .guard⟩ (by simp) rfl
                  obtain ⟨xg, xg'⟩ := hAt.dep 3 (d := 222) (by omega) lg (by rfl) (hM.fact 3 (by omega) lg)
                  rw [if_pos (by rw [wantedG rfl (by rfl) xg]; decide)]
                  clear xg xg'
                  have l4 := hdep ⟨4, .data⟩ (by simp) rfl
                  obtain ⟨x4, x4'⟩ := hAt.dep 4 (d := 223) (by omega) l4 (by rfl) (hM.fact 4 (by omega) l4)
                  have l5 := hdep ⟨5, .data⟩ (by simp) rfl
                  obtain ⟨x5, x5'⟩ := hAt.dep 5 (d := 224) (by omega) l5 (by rfl) (hM.fact 5 (by omega) l5)
                  have l14 := hdep ⟨14, .data⟩ (by simp) rfl
                  obtain ⟨k14, f14, g14⟩ := hM.fact 14 (by omega) l14
                  obtain ⟨x14, x14'⟩ := hAt.dep 14 (d := 233) (by omega) l14 (by rfl) f14
                  have l17 := hdep ⟨17, .data⟩ (by simp) rfl
                  obtain ⟨d17, f17⟩ := hM.fact 17 (by omega) l17
                  obtain ⟨x17, x17'⟩ := hAt.dep 17 (d := 236) (by omega) l17 (by rfl) f17
                  go_simp
                  obtain ⟨ls2, hl2, hc2⟩ := g14.came (show hs.length ≤ 4 by have := HL.out; omega)
                  refine (show Calls _ _ #[.agg #[.int .i64 p, .slice A hs.length c], .slice A3 qs.length c3, .slice (some ⟨k14, 0, none⟩) hs.length 4, .int .i64 d17] _ _ from hl2 ▸ Bl.given (HBd.out.next HI.out) ⟨HQC.out.1, HQC.out.2.next HI.out⟩ hc2 d17).mono ?_
                  rintro e w6 ⟨rfl, hb6⟩
                  exact hK _ w6 hb6 (HI.out.trans (hb6.mono HI.out.size)) rfl
                | 19, _ =>
                  injection ho with ho
                  subst ho
                  have lg := hdep ⟨3, .guard⟩ (by simp) rfl
                  obtain ⟨xg, xg'⟩ := hAt.dep 3 (d := 222) (by omega) lg (by rfl) (hM.fact 3 (by omega) lg)
                  rw [if_pos (by rw [wantedG rfl (by rfl) xg]; decide)]
                  clear xg xg'
                  have l18 := hdep ⟨18, .data⟩ (by simp) rfl
                  obtain ⟨x18, x18'⟩ := hAt.dep 18 (d := 237) (by omega) l18 (by rfl) (hM.fact 18 (by omega) l18)
                  go_simp
                  exact hK _ w5 (Below.refl _ _) HI.out rfl
                | 20, _ =>
                  injection ho with ho
                  subst ho
                  rw [if_pos (wantedN rfl)]
                  have l3 := hdep ⟨3, .data⟩ (by simp) rfl
                  obtain ⟨x3, x3'⟩ := hAt.dep 3 (d := 222) (by omega) l3 (by rfl) (hM.fact 3 (by omega) l3)
                  have l19 := hdep ⟨19, .data⟩ (by simp) rfl
                  obtain ⟨x19, x19'⟩ := hAt.dep 19 (d := 238) (by omega) l19 (by rfl) (hM.fact 19 (by omega) l19)
                  go_simp
                  exact hK _ w5 (Below.refl _ _) HI.out rfl
                | 21, _ =>
                  injection ho with ho
                  subst ho
                  rw [if_pos (wantedN rfl)]
                  have l20 := hdep ⟨20, .data⟩ (by simp) rfl
                  obtain ⟨x20, x20'⟩ := hAt.dep 20 (d := 239) (by omega) l20 (by rfl) (hM.fact 20 (by omega) l20)
                  go_simp
                  exact hK _ w5 (Below.refl _ _) HI.out rfl
                | 22, _ =>
                  injection ho with ho
                  subst ho
                  have lg := hdep ⟨21, .guard⟩ (by simp) rfl
                  obtain ⟨xg, xg'⟩ := hAt.dep 21 (d := 240) (by omega) lg (by rfl) (hM.fact 21 (by omega) lg)
                  rw [if_pos (by rw [wantedG rfl (by rfl) xg]; decide)]
                  clear xg xg'
                  obtain ⟨e15, e15'⟩ := hAt.slot 15 (by kernel_rfl) (by rfl)
                  go_simp
                  exact hK _ w5 (Below.refl _ _) HI.out rfl
                | 23, _ =>
                  injection ho with ho
                  subst ho
                  have lg := hdep ⟨21, .guard⟩ (by simp) rfl
                  obtain ⟨xg, xg'⟩ := hAt.dep 21 (d := 240) (by omega) lg (by rfl) (hM.fact 21 (by omega) lg)
                  rw [if_pos (by rw [wantedG rfl (by rfl) xg]; decide)]
                  clear xg xg'
                  have l22 := hdep ⟨22, .data⟩ (by simp) rfl
                  obtain ⟨x22, x22'⟩ := hAt.dep 22 (d := 241) (by omega) l22 (by rfl) (hM.fact 22 (by omega) l22)
                  go_simp
                  exact hK _ w5 (Below.refl _ _) HI.out rfl
                | 24, _ =>
                  injection ho with ho
                  subst ho
                  have lg := hdep ⟨21, .guard⟩ (by simp) rfl
                  obtain ⟨xg, xg'⟩ := hAt.dep 21 (d := 240) (by omega) lg (by rfl) (hM.fact 21 (by omega) lg)
                  rw [if_pos (by rw [wantedG rfl (by rfl) xg]; decide)]
                  clear xg xg'
                  have l23 := hdep ⟨23, .data⟩ (by simp) rfl
                  obtain ⟨x23, x23'⟩ := hAt.dep 23 (d := 242) (by omega) l23 (by rfl) (hM.fact 23 (by omega) l23)
                  have hq5 : ((n : Int) % 5 == 0) = true := by rw [beq_iff_eq]; exact H5.out
                  go_simp
                  exact hK _ w5 (Below.refl _ _) HI.out rfl
                | 25, _ =>
                  injection ho with ho
                  subst ho
                  have lg := hdep ⟨21, .guard⟩ (by simp) rfl
                  obtain ⟨xg, xg'⟩ := hAt.dep 21 (d := 240) (by omega) lg (by rfl) (hM.fact 21 (by omega) lg)
                  rw [if_pos (by rw [wantedG rfl (by rfl) xg]; decide)]
                  clear xg xg'
                  have l24 := hdep ⟨24, .data⟩ (by simp) rfl
                  obtain ⟨x24, x24'⟩ := hAt.dep 24 (d := 243) (by omega) l24 (by rfl) (hM.fact 24 (by omega) l24)
                  go_simp
                  exact hK _ w5 (Below.refl _ _) HI.out rfl
                | 26, _ =>
                  injection ho with ho
                  subst ho
                  have lg := hdep ⟨25, .guard⟩ (by simp) rfl
                  obtain ⟨xg, xg'⟩ := hAt.dep 25 (d := 244) (by omega) lg (by rfl) (hM.fact 25 (by omega) lg)
                  rw [if_pos (by rw [wantedG rfl (by rfl) xg]; decide)]
                  clear xg xg'
                  obtain ⟨e16, e16'⟩ := hAt.slot 16 (by kernel_rfl) (by rfl)
                  have c0 := HI.out.at_ lB c0
                  have c1 := HI.out.at_ lB c1'
                  go_simp
                  exact hK _ w5 (Below.refl _ _) HI.out rfl
                | 27, _ =>
                  injection ho with ho
                  subst ho
                  have lg := hdep ⟨25, .guard⟩ (by simp) rfl
                  obtain ⟨xg, xg'⟩ := hAt.dep 25 (d := 244) (by omega) lg (by rfl) (hM.fact 25 (by omega) lg)
                  rw [if_pos (by rw [wantedG rfl (by rfl) xg]; decide)]
                  clear xg xg'
                  obtain ⟨e15, e15'⟩ := hAt.slot 15 (by kernel_rfl) (by rfl)
                  go_simp
                  exact hK _ w5 (Below.refl _ _) HI.out rfl
                | 28, _ =>
                  injection ho with ho
                  subst ho
                  have lg := hdep ⟨25, .guard⟩ (by simp) rfl
                  obtain ⟨xg, xg'⟩ := hAt.dep 25 (d := 244) (by omega) lg (by rfl) (hM.fact 25 (by omega) lg)
                  rw [if_pos (by rw [wantedG rfl (by rfl) xg]; decide)]
                  clear xg xg'
                  have l27 := hdep ⟨27, .data⟩ (by simp) rfl
                  obtain ⟨x27, x27'⟩ := hAt.dep 27 (d := 246) (by omega) l27 (by rfl) (hM.fact 27 (by omega) l27)
                  go_simp
                  exact hK _ w5 (Below.refl _ _) HI.out ⟨_, rfl⟩
                | 29, _ =>
                  injection ho with ho
                  subst ho
                  have lg := hdep ⟨25, .guard⟩ (by simp) rfl
                  obtain ⟨xg, xg'⟩ := hAt.dep 25 (d := 244) (by omega) lg (by rfl) (hM.fact 25 (by omega) lg)
                  rw [if_pos (by rw [wantedG rfl (by rfl) xg]; decide)]
                  clear xg xg'
                  obtain ⟨e15, e15'⟩ := hAt.slot 15 (by kernel_rfl) (by rfl)
                  go_simp
                  exact hK _ w5 (Below.refl _ _) HI.out rfl
                | 30, _ =>
                  injection ho with ho
                  subst ho
                  have lg := hdep ⟨25, .guard⟩ (by simp) rfl
                  obtain ⟨xg, xg'⟩ := hAt.dep 25 (d := 244) (by omega) lg (by rfl) (hM.fact 25 (by omega) lg)
                  rw [if_pos (by rw [wantedG rfl (by rfl) xg]; decide)]
                  clear xg xg'
                  have l29 := hdep ⟨29, .data⟩ (by simp) rfl
                  obtain ⟨x29, x29'⟩ := hAt.dep 29 (d := 248) (by omega) l29 (by rfl) (hM.fact 29 (by omega) l29)
                  go_simp
                  exact hK _ w5 (Below.refl _ _) HI.out ⟨_, rfl⟩
                | 31, _ =>
                  injection ho with ho
                  subst ho
                  have lg := hdep ⟨25, .guard⟩ (by simp) rfl
                  obtain ⟨xg, xg'⟩ := hAt.dep 25 (d := 244) (by omega) lg (by rfl) (hM.fact 25 (by omega) lg)
                  rw [if_pos (by rw [wantedG rfl (by rfl) xg]; decide)]
                  clear xg xg'
                  obtain ⟨e15, e15'⟩ := hAt.slot 15 (by kernel_rfl) (by rfl)
                  go_simp
                  exact hK _ w5 (Below.refl _ _) HI.out rfl
                | 32, _ =>
                  injection ho with ho
                  subst ho
                  have lg := hdep ⟨25, .guard⟩ (by simp) rfl
                  obtain ⟨xg, xg'⟩ := hAt.dep 25 (d := 244) (by omega) lg (by rfl) (hM.fact 25 (by omega) lg)
                  rw [if_pos (by rw [wantedG rfl (by rfl) xg]; decide)]
                  clear xg xg'
                  have l31 := hdep ⟨31, .data⟩ (by simp) rfl
                  obtain ⟨x31, x31'⟩ := hAt.dep 31 (d := 250) (by omega) l31 (by rfl) (hM.fact 31 (by omega) l31)
                  go_simp
                  exact hK _ w5 (Below.refl _ _) HI.out ⟨_, rfl⟩
                | 33, _ =>
                  injection ho with ho
                  subst ho
                  have lg := hdep ⟨25, .guard⟩ (by simp) rfl
                  obtain ⟨xg, xg'⟩ := hAt.dep 25 (d := 244) (by omega) lg (by rfl) (hM.fact 25 (by omega) lg)
                  rw [if_pos (by rw [wantedG rfl (by rfl) xg]; decide)]
                  clear xg xg'
                  have l26 := hdep ⟨26, .data⟩ (by simp) rfl
                  obtain ⟨x26, x26'⟩ := hAt.dep 26 (d := 245) (by omega) l26 (by rfl) (hM.fact 26 (by omega) l26)
                  have l28 := hdep ⟨28, .data⟩ (by simp) rfl
                  obtain ⟨d28, f28⟩ := hM.fact 28 (by omega) l28
                  obtain ⟨x28, x28'⟩ := hAt.dep 28 (d := 247) (by omega) l28 (by rfl) f28
                  have l30 := hdep ⟨30, .data⟩ (by simp) rfl
                  obtain ⟨d30, f30⟩ := hM.fact 30 (by omega) l30
                  obtain ⟨x30, x30'⟩ := hAt.dep 30 (d := 249) (by omega) l30 (by rfl) f30
                  have l32 := hdep ⟨32, .data⟩ (by simp) rfl
                  obtain ⟨d32, f32⟩ := hM.fact 32 (by omega) l32
                  obtain ⟨x32, x32'⟩ := hAt.dep 32 (d := 251) (by omega) l32 (by rfl) f32
                  go_simp
                  refine (Bl.appeals (HBd.out.next HI.out) d28 d30 d32).mono ?_
                  rintro e w6 ⟨rfl, hb6⟩
                  exact hK _ w6 hb6 (HI.out.trans (hb6.mono HI.out.size)) rfl
                | 34, _ =>
                  injection ho with ho
                  subst ho
                  have lg := hdep ⟨25, .guard⟩ (by simp) rfl
                  obtain ⟨xg, xg'⟩ := hAt.dep 25 (d := 244) (by omega) lg (by rfl) (hM.fact 25 (by omega) lg)
                  rw [if_pos (by rw [wantedG rfl (by rfl) xg]; decide)]
                  clear xg xg'
                  have l33 := hdep ⟨33, .data⟩ (by simp) rfl
                  obtain ⟨x33, x33'⟩ := hAt.dep 33 (d := 252) (by omega) l33 (by rfl) (hM.fact 33 (by omega) l33)
                  go_simp
                  exact hK _ w5 (Below.refl _ _) HI.out rfl
                | 35, _ =>
                  injection ho with ho
                  subst ho
                  have lg := hdep ⟨21, .guard⟩ (by simp) rfl
                  obtain ⟨xg, xg'⟩ := hAt.dep 21 (d := 240) (by omega) lg (by rfl) (hM.fact 21 (by omega) lg)
                  rw [if_pos (by rw [wantedG rfl (by rfl) xg]; decide)]
                  clear xg xg'
                  have l25 := hdep ⟨25, .data⟩ (by simp) rfl
                  obtain ⟨x25, x25'⟩ := hAt.dep 25 (d := 244) (by omega) l25 (by rfl) (hM.fact 25 (by omega) l25)
                  have l34 := hdep ⟨34, .data⟩ (by simp) rfl
                  obtain ⟨x34, x34'⟩ := hAt.dep 34 (d := 253) (by omega) l34 (by rfl) (hM.fact 34 (by omega) l34)
                  go_simp
                  exact hK _ w5 (Below.refl _ _) HI.out rfl
                | 36, _ =>
                  injection ho with ho
                  subst ho
                  rw [if_pos (wantedN rfl)]
                  have l21 := hdep ⟨21, .data⟩ (by simp) rfl
                  obtain ⟨x21, x21'⟩ := hAt.dep 21 (d := 240) (by omega) l21 (by rfl) (hM.fact 21 (by omega) l21)
                  have l35 := hdep ⟨35, .data⟩ (by simp) rfl
                  obtain ⟨x35, x35'⟩ := hAt.dep 35 (d := 254) (by omega) l35 (by rfl) (hM.fact 35 (by omega) l35)
                  go_simp
                  exact hK _ w5 (Below.refl _ _) HI.out rfl
                | jq + 37, hq => exact absurd hq (by omega)
              · intro vals w5 hF hI
                have HI := Lib.hid hI
                have f36 : vals 36 = .bool false := hF 36 (by omega)
                clear hF hI
                simp only [putAll, List.range, List.range.loop, List.foldl_cons, List.foldl_nil, f36]
                clear f36
                change (_ : Exit → Act → World → Prop) _ (Act.put (Act.put (Act.put (Act.put (Act.put (Act.put (Act.put (Act.put (Act.put (Act.put (Act.put (Act.put (Act.put (Act.put (Act.put (Act.put (Act.put (Act.put (Act.put (Act.put (Act.put (Act.put (Act.put (Act.put (Act.put (Act.put (Act.put (Act.put (Act.put (Act.put (Act.put (Act.put (Act.put (Act.put (Act.put (Act.put (Act.put _ (some 219) _) (some 220) _) (some 221) _) (some 222) _) (some 223) _) (some 224) _) (some 225) _) (some 226) _) (some 227) _) (some 228) _) (some 229) _) (some 230) _) (some 231) _) (some 232) _) (some 233) _) (some 234) _) (some 235) _) (some 236) _) (some 237) _) (some 238) _) (some 239) _) (some 240) _) (some 241) _) (some 242) _) (some 243) _) (some 244) _) (some 245) _) (some 246) _) (some 247) _) (some 248) _) (some 249) _) (some 250) _) (some 251) _) (some 252) _) (some 253) _) (some 254) _) (some 255) _) _
                simp only [Act.put, List.setIfInBounds_toArray, List.set_cons_zero, List.set_cons_succ]
                go_wp2_with fail
                go_meet
                case rel => exact ⟨rfl, HI.out⟩
            · have H5 := Lib.hid h5
              clear h5
              refine wp_invN 37 (by kernel_rfl) (by kernel_rfl) (by kernel_rfl) (FL [PEq (.agg #[.int .i64 p, .slice A hs.length c]), PEq (.bool true), PEq (.bool false), PEq (.bool false), PEq (.agg #[.int .i64 p, .slice A hs.length c]), PEq (.slice A3 qs.length c3), PEq (.int .i64 n), PInt, PEq (.int .i64 n), PInt, PRo4 wd.heap.size, PEq (.pointer (some ⟨gB, 1, none⟩)), PEq (.slice A hs.length c), PEq (.int .i64 hs.length), PSl4 wd.heap.size hs.length, PEq (.int .i64 n), PInt, PInt, PEq (.bool true), PEq (.bool false), PEq (.bool false), PEq (.bool false), PEq (.int .i64 n), PEq (.int .i64 ((n : Int) % 5)), PEq (.bool false), PEq (.bool false), PEq (undef), PEq (undef), PEq (undef), PEq (undef), PEq (undef), PEq (undef), PEq (undef), PEq (undef), PEq (undef), PEq (.bool false), PEq (.bool false)])
                (fun x => Below wd.heap.size wd x) (fun x y => Below x.heap.size x y) (FL.keepB (by simp [stbB_eq, stbB_int, stbB_ro4, stbB_sl4])) (below_drew wd) ?_ ?_
              · intro iq o hi' ho listed vals a w5 hdep hM hAt K hK
                have HI := Lib.hid hM.inv
                match iq, hi' with
                | 0, _ =>
                  injection ho with ho
                  subst ho
                  rw [if_pos (wantedN rfl)]
                  obtain ⟨e16, e16'⟩ := hAt.slot 16 (by kernel_rfl) (by rfl)
                  have c0 := HI.out.at_ lB c0
                  have c1 := HI.out.at_ lB c1'
                  go_simp
                  exact hK _ w5 (Below.refl _ _) HI.out rfl
                | 1, _ =>
                  injection ho with ho
                  subst ho
                  rw [if_pos (wantedN rfl)]
                  have l0 := hdep ⟨0, .data⟩ (by simp) rfl
                  obtain ⟨x0, x0'⟩ := hAt.dep 0 (d := 219) (by omega) l0 (by rfl) (hM.fact 0 (by omega) l0)
                  go_simp
                  refine (Bl.shares (HBd.out.next HI.out)).mono ?_
                  rintro e w6 ⟨rfl, hb6⟩
                  exact hK _ w6 hb6 (HI.out.trans (hb6.mono HI.out.size)) rfl
                | 2, _ =>
                  injection ho with ho
                  subst ho
                  rw [if_pos (wantedN rfl)]
                  have l1 := hdep ⟨1, .data⟩ (by simp) rfl
                  obtain ⟨x1, x1'⟩ := hAt.dep 1 (d := 220) (by omega) l1 (by rfl) (hM.fact 1 (by omega) l1)
                  go_simp
                  exact hK _ w5 (Below.refl _ _) HI.out rfl
                | 3, _ =>
                  injection ho with ho
                  subst ho
                  rw [if_pos (wantedN rfl)]
                  have l2 := hdep ⟨2, .data⟩ (by simp) rfl
                  obtain ⟨x2, x2'⟩ := hAt.dep 2 (d := 221) (by omega) l2 (by rfl) (hM.fact 2 (by omega) l2)
                  go_simp
                  exact hK _ w5 (Below.refl _ _) HI.out rfl
                | 4, _ =>
                  injection ho with ho
                  subst ho
                  have lg := hdep ⟨3, .guard⟩ (by simp) rfl
                  obtain ⟨xg, xg'⟩ := hAt.dep 3 (d := 222) (by omega) lg (by rfl) (hM.fact 3 (by omega) lg)
                  rw [if_pos (by rw [wantedG rfl (by rfl) xg]; decide)]
                  clear xg xg'
                  obtain ⟨e16, e16'⟩ := hAt.slot 16 (by kernel_rfl) (by rfl)
                  have c0 := HI.out.at_ lB c0
                  have c1 := HI.out.at_ lB c1'
                  go_simp
                  exact hK _ w5 (Below.refl _ _) HI.out rfl
                | 5, _ =>
                  injection ho with ho
                  subst ho
                  have lg := hdep ⟨3, .guard⟩ (by simp) rfl
                  obtain ⟨xg, xg'⟩ := hAt.dep 3 (d := 222) (by omega) lg (by rfl) (hM.fact 3 (by omega) lg)
                  rw [if_pos (by rw [wantedG rfl (by rfl) xg]; decide)]
                  clear xg xg'
                  obtain ⟨e19, e19'⟩ := hAt.slot 19 (by kernel_rfl) (by rfl)
                  go_simp
                  exact hK _ w5 (Below.refl _ _) HI.out rfl
                | 6, _ =>
                  injection ho with ho
                  subst ho
                  have lg := hdep ⟨3, .guard⟩ (by simp) rfl
                  obtain ⟨xg, xg'⟩ := hAt.dep 3 (d := 222) (by omega) lg (by rfl) (hM.fact 3 (by omega) lg)
                  rw [if_pos (by rw [wantedG rfl (by rfl) xg]; decide)]
                  clear xg xg'
                  obtain ⟨e15, e15'⟩ := hAt.slot 15 (by kernel_rfl) (by rfl)
                  go_simp
                  exact hK _ w5 (Below.refl _ _) HI.out rfl
                | 7, _ =>
                  injection ho with ho
                  subst ho
                  have lg := hdep ⟨3, .guard⟩ (by simp) rfl
                  obtain ⟨xg, xg'⟩ := hAt.dep 3 (d := 222) (by omega) lg (by rfl) (hM.fact 3 (by omega) lg)
                  rw [if_pos (by rw [wantedG rfl (by rfl) xg]; decide)]
                  clear xg xg'
                  have l6 := hdep ⟨6, .data⟩ (by simp) rfl
                  obtain ⟨x6, x6'⟩ := hAt.dep 6 (d := 225) (by omega) l6 (by rfl) (hM.fact 6 (by omega) l6)
                  go_simp
                  exact hK _ w5 (Below.refl _ _) HI.out ⟨_, rfl⟩
                | 8, _ =>
                  injection ho with ho
                  subst ho
                  have lg := hdep ⟨3, .guard⟩ (by simp) rfl
                  obtain ⟨xg, xg'⟩ := hAt.dep 3 (d := 222) (by omega) lg (by rfl) (hM.fact 3 (by omega) lg)
                  rw [if_pos (by rw [wantedG rfl (by rfl) xg]; decide)]
                  clear xg xg'
                  obtain ⟨e15, e15'⟩ := hAt.slot 15 (by kernel_rfl) (by rfl)
                  go_simp
                  exact hK _ w5 (Below.refl _ _) HI.out rfl
                | 9, _ =>
                  injection ho with ho
                  subst ho
                  have lg := hdep ⟨3, .guard⟩ (by simp) rfl
                  obtain ⟨xg, xg'⟩ := hAt.dep 3 (d := 222) (by omega) lg (by rfl) (hM.fact 3 (by omega) lg)
                  rw [if_pos (by rw [wantedG rfl (by rfl) xg]; decide)]
                  clear xg xg'
                  have l8 := hdep ⟨8, .data⟩ (by simp) rfl
                  obtain ⟨x8, x8'⟩ := hAt.dep 8 (d := 227) (by omega) l8 (by rfl) (hM.fact 8 (by omega) l8)
                  go_simp
                  exact hK _ w5 (Below.refl _ _) HI.out ⟨_, rfl⟩
                | 10, _ =>
                  injection ho with ho
                  subst ho
                  have lg := hdep ⟨3, .guard⟩ (by simp) rfl
                  obtain ⟨xg, xg'⟩ := hAt.dep 3 (d := 222) (by omega) lg (by rfl) (hM.fact 3 (by omega) lg)
                  rw [if_pos (by rw [wantedG rfl (by rfl) xg]; decide)]
                  clear xg xg'
                  have l7 := hdep ⟨7, .data⟩ (by simp) rfl
                  obtain ⟨d7, f7⟩ := hM.fact 7 (by omega) l7
                  obtain ⟨x7, x7'⟩ := hAt.dep 7 (d := 226) (by omega) l7 (by rfl) f7
                  have l9 := hdep ⟨9, .data⟩ (by simp) rfl
                  obtain ⟨d9, f9⟩ := hM.fact 9 (by omega) l9
                  obtain ⟨x9, x9'⟩ := hAt.dep 9 (d := 228) (by omega) l9 (by rfl) f9
                  go_simp
                  exact hK _ _ (below_new _ _) (HI.out.alloc HI.out.size _) ⟨w5.heap.size, rfl, ro4_new _ _ _ _ _ _ _ HI.out.size⟩
                | 11, _ =>
                  injection ho with ho
                  subst ho
                  have lg := hdep ⟨3, .guard⟩ (by simp) rfl
                  obtain ⟨xg, xg'⟩ := hAt.dep 3 (d := 222) (by omega) lg (by rfl) (hM.fact 3 (by omega) lg)
                  rw [if_pos (by rw [wantedG rfl (by rfl) xg]; decide)]
                  clear xg xg'
                  obtain ⟨e16, e16'⟩ := hAt.slot 16 (by kernel_rfl) (by rfl)
                  go_simp
                  exact hK _ w5 (Below.refl _ _) HI.out rfl
                | 12, _ =>
                  injection ho with ho
                  subst ho
                  have lg := hdep ⟨3, .guard⟩ (by simp) rfl
                  obtain ⟨xg, xg'⟩ := hAt.dep 3 (d := 222) (by omega) lg (by rfl) (hM.fact 3 (by omega) lg)
                  rw [if_pos (by rw [wantedG rfl (by rfl) xg]; decide)]
                  clear xg xg'
                  have l11 := hdep ⟨11, .data⟩ (by simp) rfl
                  obtain ⟨x11, x11'⟩ := hAt.dep 11 (d := 230) (by omega) l11 (by rfl) (hM.fact 11 (by omega) l11)
                  have c0 := HI.out.at_ lB c0
                  have c1 := HI.out.at_ lB c1'
                  go_simp
                  exact hK _ w5 (Below.refl _ _) HI.out rfl
                | 13, _ =>
                  injection ho with ho
                  subst ho
                  have lg := hdep ⟨3, .guard⟩ (by simp) rfl
                  obtain ⟨xg, xg'⟩ := hAt.dep 3 (d := 222) (by omega) lg (by rfl) (hM.fact 3 (by omega) lg)
                  rw [if_pos (by rw [wantedG rfl (by rfl) xg]; decide)]
                  clear xg xg'
                  have l12 := hdep ⟨12, .data⟩ (by simp) rfl
                  obtain ⟨x12, x12'⟩ := hAt.dep 12 (d := 231) (by omega) l12 (by rfl) (hM.fact 12 (by omega) l12)
                  go_simp
                  exact hK _ w5 (Below.refl _ _) HI.out rfl
                | 14, _ =>
                  injection ho with ho
                  subst ho
                  have lg := hdep ⟨3, .guard⟩ (by simp) rfl
                  obtain ⟨xg, xg'⟩ := hAt.dep 3 (d := 222) (by omega) lg (by rfl) (hM.fact 3 (by omega) lg)
                  rw [if_pos (by rw [wantedG rfl (by rfl) xg]; decide)]
                  clear xg xg'
                  have l10 := hdep ⟨10, .data⟩ (by simp) rfl
                  obtain ⟨k10, f10, g10⟩ := hM.fact 10 (by omega) l10
                  obtain ⟨x10, x10'⟩ := hAt.dep 10 (d := 229) (by omega) l10 (by rfl) f10
                  have l13 := hdep ⟨13, .data⟩ (by simp) rfl
                  obtain ⟨x13, x13'⟩ := hAt.dep 13 (d := 232) (by omega) l13 (by rfl) (hM.fact 13 (by omega) l13)
                  have hh4 : (hs.length : Int) ≤ 4 := by have := HL.out; omega
                  have hh0 : (0 : Int) ≤ (hs.length : Int) := by omega
                  go_simp
                  exact hK _ w5 (Below.refl _ _) HI.out ⟨k10, rfl, g10⟩
                | 15, _ =>
                  injection ho with ho
                  subst ho
                  have lg := hdep ⟨3, .guard⟩ (by simp) rfl
                  obtain ⟨xg, xg'⟩ := hAt.dep 3 (d := 222) (by omega) lg (by rfl) (hM.fact 3 (by omega) lg)
                  rw [if_pos (by rw [wantedG rfl (by rfl) xg]; decide)]
                  clear xg xg'
                  obtain ⟨e15, e15'⟩ := hAt.slot 15 (by kernel_rfl) (by rfl)
                  go_simp
                  exact hK _ w5 (Below.refl _ _) HI.out rfl
                | 16, _ =>
                  injection ho with ho
                  subst ho
                  have lg := hdep ⟨3, .guard⟩ (by simp) rfl
                  obtain ⟨xg, xg'⟩ := hAt.dep 3 (d := 222) (by omega) lg (by rfl) (hM.fact 3 (by omega) lg)
                  rw [if_pos (by rw [wantedG rfl (by rfl) xg]; decide)]
                  clear xg xg'
                  have l15 := hdep ⟨15, .data⟩ (by simp) rfl
                  obtain ⟨x15, x15'⟩ := hAt.dep 15 (d := 234) (by omega) l15 (by rfl) (hM.fact 15 (by omega) l15)
                  go_simp
                  exact hK _ w5 (Below.refl _ _) HI.out ⟨_, rfl⟩
                | 17, _ =>
                  injection ho with ho
                  subst ho
                  have lg := hdep ⟨3, .guard⟩ (by simp) rfl
                  obtain ⟨xg, xg'⟩ := hAt.dep 3 (d := 222) (by omega) lg (by rfl) (hM.fact 3 (by omega) lg)
                  rw [if_pos (by rw [wantedG rfl (by rfl) xg]; decide)]
                  clear xg xg'
                  have l16 := hdep ⟨16, .data⟩ (by simp) rfl
                  obtain ⟨d16, f16⟩ := hM.fact 16 (by omega) l16
                  obtain ⟨x16, x16'⟩ := hAt.dep 16 (d := 235) (by omega) l16 (by rfl) f16
                  go_simp
                  exact hK _ w5 (Below.refl _ _) HI.out ⟨_, rfl⟩
                | 18, _ =>
                  injection ho with ho
                  subst ho
                  have lg := hdep ⟨3, .guard⟩ (by simp) rfl
                  obtain ⟨xg, xg'⟩ := hAt.dep 3 (d := 222) (by omega) lg (by rfl) (hM.fact 3 (by omega) lg)
                  rw [if_pos (by rw [wantedG rfl (by rfl) xg]; decide)]
                  clear xg xg'
                  have l4 := hdep ⟨4, .data⟩ (by simp) rfl
                  obtain ⟨x4, x4'⟩ := hAt.dep 4 (d := 223) (by omega) l4 (by rfl) (hM.fact 4 (by omega) l4)
                  have l5 := hdep ⟨5, .data⟩ (by simp) rfl
                  obtain ⟨x5, x5'⟩ := hAt.dep 5 (d := 224) (by omega) l5 (by rfl) (hM.fact 5 (by omega) l5)
                  have l14 := hdep ⟨14, .data⟩ (by simp) rfl
                  obtain ⟨k14, f14, g14⟩ := hM.fact 14 (by omega) l14
                  obtain ⟨x14, x14'⟩ := hAt.dep 14 (d := 233) (by omega) l14 (by rfl) f14
                  have l17 := hdep ⟨17, .data⟩ (by simp) rfl
                  obtain ⟨d17, f17⟩ := hM.fact 17 (by omega) l17
                  obtain ⟨x17, x17'⟩ := hAt.dep 17 (d := 236) (by omega) l17 (by rfl) f17
                  go_simp
                  obtain ⟨ls2, hl2, hc2⟩ := g14.came (show hs.length ≤ 4 by have := HL.out; omega)
                  refine (show Calls _ _ #[.agg #[.int .i64 p, .slice A hs.length c], .slice A3 qs.length c3, .slice (some ⟨k14, 0, none⟩) hs.length 4, .int .i64 d17] _ _ from hl2 ▸ Bl.given (HBd.out.next HI.out) ⟨HQC.out.1, HQC.out.2.next HI.out⟩ hc2 d17).mono ?_
                  rintro e w6 ⟨rfl, hb6⟩
                  exact hK _ w6 hb6 (HI.out.trans (hb6.mono HI.out.size)) rfl
                | 19, _ =>
                  injection ho with ho
                  subst ho
                  have lg := hdep ⟨3, .guard⟩ (by simp) rfl
                  obtain ⟨xg, xg'⟩ := hAt.dep 3 (d := 222) (by omega) lg (by rfl) (hM.fact 3 (by omega) lg)
                  rw [if_pos (by rw [wantedG rfl (by rfl) xg]; decide)]
                  clear xg xg'
                  have l18 := hdep ⟨18, .data⟩ (by simp) rfl
                  obtain ⟨x18, x18'⟩ := hAt.dep 18 (d := 237) (by omega) l18 (by rfl) (hM.fact 18 (by omega) l18)
                  go_simp
                  exact hK _ w5 (Below.refl _ _) HI.out rfl
                | 20, _ =>
                  injection ho with ho
                  subst ho
                  rw [if_pos (wantedN rfl)]
                  have l3 := hdep ⟨3, .data⟩ (by simp) rfl
                  obtain ⟨x3, x3'⟩ := hAt.dep 3 (d := 222) (by omega) l3 (by rfl) (hM.fact 3 (by omega) l3)
                  have l19 := hdep ⟨19, .data⟩ (by simp) rfl
                  obtain ⟨x19, x19'⟩ := hAt.dep 19 (d := 238) (by omega) l19 (by rfl) (hM.fact 19 (by omega) l19)
                  go_simp
                  exact hK _ w5 (Below.refl _ _) HI.out rfl
                | 21, _ =>
                  injection ho with ho
                  subst ho
                  rw [if_pos (wantedN rfl)]
                  have l20 := hdep ⟨20, .data⟩ (by simp) rfl
                  obtain ⟨x20, x20'⟩ := hAt.dep 20 (d := 239) (by omega) l20 (by rfl) (hM.fact 20 (by omega) l20)
                  go_simp
                  exact hK _ w5 (Below.refl _ _) HI.out rfl
                | 22, _ =>
                  injection ho with ho
                  subst ho
                  have lg := hdep ⟨21, .guard⟩ (by simp) rfl
                  obtain ⟨xg, xg'⟩ := hAt.dep 21 (d := 240) (by omega) lg (by rfl) (hM.fact 21 (by omega) lg)
                  rw [if_pos (by rw [wantedG rfl (by rfl) xg]; decide)]
                  clear xg xg'
                  obtain ⟨e15, e15'⟩ := hAt.slot 15 (by kernel_rfl) (by rfl)
                  go_simp
                  exact hK _ w5 (Below.refl _ _) HI.out rfl
                | 23, _ =>
                  injection ho with ho
                  subst ho
                  have lg := hdep ⟨21, .guard⟩ (by simp) rfl
                  obtain ⟨xg, xg'⟩ := hAt.dep 21 (d := 240) (by omega) lg (by rfl) (hM.fact 21 (by omega) lg)
                  rw [if_pos (by rw [wantedG rfl (by rfl) xg]; decide)]
                  clear xg xg'
                  have l22 := hdep ⟨22, .data⟩ (by simp) rfl
                  obtain ⟨x22, x22'⟩ := hAt.dep 22 (d := 241) (by omega) l22 (by rfl) (hM.fact 22 (by omega) l22)
                  go_simp
                  exact hK _ w5 (Below.refl _ _) HI.out rfl
                | 24, _ =>
                  injection ho with ho
                  subst ho
                  have lg := hdep ⟨21, .guard⟩ (by simp) rfl
                  obtain ⟨xg, xg'⟩ := hAt.dep 21 (d := 240) (by omega) lg (by rfl) (hM.fact 21 (by omega) lg)
                  rw [if_pos (by rw [wantedG rfl (by rfl) xg]; decide)]
                  clear xg xg'
                  have l23 := hdep ⟨23, .data⟩ (by simp) rfl
                  obtain ⟨x23, x23'⟩ := hAt.dep 23 (d := 242) (by omega) l23 (by rfl) (hM.fact 23 (by omega) l23)
                  have hq5 : ((n : Int) % 5 == 0) = false := by rw [beq_eq_false_iff_ne]; exact H5.out
                  go_simp
                  exact hK _ w5 (Below.refl _ _) HI.out rfl
                | 25, _ =>
                  injection ho with ho
                  subst ho
                  have lg := hdep ⟨21, .guard⟩ (by simp) rfl
                  obtain ⟨xg, xg'⟩ := hAt.dep 21 (d := 240) (by omega) lg (by rfl) (hM.fact 21 (by omega) lg)
                  rw [if_pos (by rw [wantedG rfl (by rfl) xg]; decide)]
                  clear xg xg'
                  have l24 := hdep ⟨24, .data⟩ (by simp) rfl
                  obtain ⟨x24, x24'⟩ := hAt.dep 24 (d := 243) (by omega) l24 (by rfl) (hM.fact 24 (by omega) l24)
                  go_simp
                  exact hK _ w5 (Below.refl _ _) HI.out rfl
                | 26, _ =>
                  injection ho with ho
                  subst ho
                  have lg := hdep ⟨25, .guard⟩ (by simp) rfl
                  obtain ⟨xg, xg'⟩ := hAt.dep 25 (d := 244) (by omega) lg (by rfl) (hM.fact 25 (by omega) lg)
                  rw [if_neg (by rw [wantedG rfl (by rfl) xg]; decide)]
                  exact hK _ w5 (Below.refl _ _) HI.out rfl
                | 27, _ =>
                  injection ho with ho
                  subst ho
                  have lg := hdep ⟨25, .guard⟩ (by simp) rfl
                  obtain ⟨xg, xg'⟩ := hAt.dep 25 (d := 244) (by omega) lg (by rfl) (hM.fact 25 (by omega) lg)
                  rw [if_neg (by rw [wantedG rfl (by rfl) xg]; decide)]
                  exact hK _ w5 (Below.refl _ _) HI.out rfl
                | 28, _ =>
                  injection ho with ho
                  subst ho
                  have lg := hdep ⟨25, .guard⟩ (by simp) rfl
                  obtain ⟨xg, xg'⟩ := hAt.dep 25 (d := 244) (by omega) lg (by rfl) (hM.fact 25 (by omega) lg)
                  rw [if_neg (by rw [wantedG rfl (by rfl) xg]; decide)]
                  exact hK _ w5 (Below.refl _ _) HI.out rfl
                | 29, _ =>
                  injection ho with ho
                  subst ho
                  have lg := hdep ⟨25, .guard⟩ (by simp) rfl
                  obtain ⟨xg, xg'⟩ := hAt.dep 25 (d := 244) (by omega) lg (by rfl) (hM.fact 25 (by omega) lg)
                  rw [if_neg (by rw [wantedG rfl (by rfl) xg]; decide)]
                  exact hK _ w5 (Below.refl _ _) HI.out rfl
                | 30, _ =>
                  injection ho with ho
                  subst ho
                  have lg := hdep ⟨25, .guard⟩ (by simp) rfl
                  obtain ⟨xg, xg'⟩ := hAt.dep 25 (d := 244) (by omega) lg (by rfl) (hM.fact 25 (by omega) lg)
                  rw [if_neg (by rw [wantedG rfl (by rfl) xg]; decide)]
                  exact hK _ w5 (Below.refl _ _) HI.out rfl
                | 31, _ =>
                  injection ho with ho
                  subst ho
                  have lg := hdep ⟨25, .guard⟩ (by simp) rfl
                  obtain ⟨xg, xg'⟩ := hAt.dep 25 (d := 244) (by omega) lg (by rfl) (hM.fact 25 (by omega) lg)
                  rw [if_neg (by rw [wantedG rfl (by rfl) xg]; decide)]
                  exact hK _ w5 (Below.refl _ _) HI.out rfl
                | 32, _ =>
                  injection ho with ho
                  subst ho
                  have lg := hdep ⟨25, .guard⟩ (by simp) rfl
                  obtain ⟨xg, xg'⟩ := hAt.dep 25 (d := 244) (by omega) lg (by rfl) (hM.fact 25 (by omega) lg)
                  rw [if_neg (by rw [wantedG rfl (by rfl) xg]; decide)]
                  exact hK _ w5 (Below.refl _ _) HI.out rfl
                | 33, _ =>
                  injection ho with ho
                  subst ho
                  have lg := hdep ⟨25, .guard⟩ (by simp) rfl
                  obtain ⟨xg, xg'⟩ := hAt.dep 25 (d := 244) (by omega) lg (by rfl) (hM.fact 25 (by omega) lg)
                  rw [if_neg (by rw [wantedG rfl (by rfl) xg]; decide)]
                  exact hK _ w5 (Below.refl _ _) HI.out rfl
                | 34, _ =>
                  injection ho with ho
                  subst ho
                  have lg := hdep ⟨25, .guard⟩ (by simp) rfl
                  obtain ⟨xg, xg'⟩ := hAt.dep 25 (d := 244) (by omega) lg (by rfl) (hM.fact 25 (by omega) lg)
                  rw [if_neg (by rw [wantedG rfl (by rfl) xg]; decide)]
                  exact hK _ w5 (Below.refl _ _) HI.out rfl
                | 35, _ =>
                  injection ho with ho
                  subst ho
                  have lg := hdep ⟨21, .guard⟩ (by simp) rfl
                  obtain ⟨xg, xg'⟩ := hAt.dep 21 (d := 240) (by omega) lg (by rfl) (hM.fact 21 (by omega) lg)
                  rw [if_pos (by rw [wantedG rfl (by rfl) xg]; decide)]
                  clear xg xg'
                  have l25 := hdep ⟨25, .data⟩ (by simp) rfl
                  obtain ⟨x25, x25'⟩ := hAt.dep 25 (d := 244) (by omega) l25 (by rfl) (hM.fact 25 (by omega) l25)
                  go_simp
                  exact hK _ w5 (Below.refl _ _) HI.out rfl
                | 36, _ =>
                  injection ho with ho
                  subst ho
                  rw [if_pos (wantedN rfl)]
                  have l21 := hdep ⟨21, .data⟩ (by simp) rfl
                  obtain ⟨x21, x21'⟩ := hAt.dep 21 (d := 240) (by omega) l21 (by rfl) (hM.fact 21 (by omega) l21)
                  have l35 := hdep ⟨35, .data⟩ (by simp) rfl
                  obtain ⟨x35, x35'⟩ := hAt.dep 35 (d := 254) (by omega) l35 (by rfl) (hM.fact 35 (by omega) l35)
                  go_simp
                  exact hK _ w5 (Below.refl _ _) HI.out rfl
                | jq + 37, hq => exact absurd hq (by omega)
              · intro vals w5 hF hI
                have HI := Lib.hid hI
                have f36 : vals 36 = .bool false := hF 36 (by omega)
                clear hF hI
                simp only [putAll, List.range, List.range.loop, List.foldl_cons, List.foldl_nil, f36]
                clear f36
                change (_ : Exit → Act → World → Prop) _ (Act.put (Act.put (Act.put (Act.put (Act.put (Act.put (Act.put (Act.put (Act.put (Act.put (Act.put (Act.put (Act.put (Act.put (Act.put (Act.put (Act.put (Act.put (Act.put (Act.put (Act.put (Act.put (Act.put (Act.put (Act.put (Act.put (Act.put (Act.put (Act.put (Act.put (Act.put (Act.put (Act.put (Act.put (Act.put (Act.put (Act.put _ (some 219) _) (some 220) _) (some 221) _) (some 222) _) (some 223) _) (some 224) _) (some 225) _) (some 226) _) (some 227) _) (some 228) _) (some 229) _) (some 230) _) (some 231) _) (some 232) _) (some 233) _) (some 234) _) (some 235) _) (some 236) _) (some 237) _) (some 238) _) (some 239) _) (some 240) _) (some 241) _) (some 242) _) (some 243) _) (some 244) _) (some 245) _) (some 246) _) (some 247) _) (some 248) _) (some 249) _) (some 250) _) (some 251) _) (some 252) _) (some 253) _) (some 254) _) (some 255) _) _
                simp only [Act.put, List.setIfInBounds_toArray, List.set_cons_zero, List.set_cons_succ]
                go_wp2_with fail
                go_meet
                case rel => exact ⟨rfl, HI.out⟩
          case rest =>
            obtain ⟨rfl, hbd⟩ := hcut
            have HBA : Hid (Below wA.heap.size wA wc) := (HBd.out.next hbd.out).bw
            clear HBd HQC hbd lB c0 c1'
            obtain ⟨we, hwe⟩ : ∃ x, x = wc := ⟨_, rfl⟩
            subst hwe
            go_wp2_with fail
            obtain ⟨N5, hN5⟩ : ∃ N5 : Nat, (n : Int) % 5 = (N5 : Int) := ⟨n % 5, by omega⟩
            have hN5b : N5 ≤ 4 := by omega
            have HN5 := Lib.hid hN5
            rw [hN5]
            clear hN5
            generalize (n : Int) % 4 = gr
            generalize (n : Int) % 101 = la
            have HCF := Lib.hid (fun W => col_first we gr la 31 (E := 39) (sz := 2) (W := W))
            generalize hwm2 : World.alloc we _ = wm2
            obtain ⟨hcf, hbf⟩ := HCF.out wm2 hwm2.symm
            have HC0 := Lib.hid hcf
            have HBM := Lib.hid (HBA.out.trans (hbf.mono HBA.out.size))
            have HGE : Hid (wA.heap.size ≤ we.heap.size) := HBA.out.size
            have zm : we.heap.size < wm2.heap.size := hcf.lt
            generalize we.heap.size = gA at HC0 HGE zm ⊢
            clear hwm2 HCF hcf hbf HBA
            obtain ⟨j0, jh0, jh1, jh2, jh3⟩ := info_parts infoEntryS
            go_loopw [263] (fun iv wr => ∃ (i : Nat) (cs : List (Int × Int)) (v : Value), iv = .int .i64 i ∧ i ≤ N5 ∧ Hid (cs.length = i) ∧ Hid (Col wm2 wr gA 0 4 39 2 (cA1 gr la) i (pairs cs) v)) (fun iv _ => N5 - (intOf iv).toNat)
            case atStart => exact ⟨0, [], _, rfl, by simp, rfl, HC0.out⟩
            case round =>
              obtain ⟨i, cs, v, rfl, hl, HLC, HC⟩ := hrel
              by_cases hil : i < N5
              · have hilz : (i : Int) < N5 := by omega
                have hi0 : (0 : Int) ≤ (i : Int) := by omega
                have hi4 : (i : Int) ≤ 4 := by omega
                have o1 := HC.out.o 0 (by omega)
                rw [if_pos rfl] at o1
                have lz := Nat.lt_of_lt_of_le zm HC.out.far.sz
                go_upto_region 43 with fail
                refine wp_inv 15 (by kernel_rfl) (by kernel_rfl) (by kernel_rfl) (by decide) (FL [PEq (.pointer (some ⟨gA, 0, none⟩)), PEq (v), PEq (.int .i64 i), PInt, PEq (.int .i64 n), PInt, PInt, PEq (.int .i64 n), PEq (.int .i64 i), PEq (.int .i64 ((i : Int) + 1)), PInt, PInt, PInt, PAg2, PRo2 wr.heap.size])
                  (fun x => Below wr.heap.size wr x) (fun x y => Below x.heap.size x y) (FL.keepB (by simp [stbB_ag2, stbB_eq, stbB_int, stbB_ro2])) (below_drew wr) ?_ ?_
                · intro iq o hi' ho listed vals a w5 hdep hM hAt K hK
                  have HI := Lib.hid hM.inv
                  match iq, hi' with
                  | 0, _ =>
                    injection ho with ho
                    subst ho
                    obtain ⟨e21, e21'⟩ := hAt.slot 21 (by kernel_rfl) (by rfl)
                    go_simp
                    exact hK _ w5 (Below.refl _ _) HI.out rfl
                  | 1, _ =>
                    injection ho with ho
                    subst ho
                    have l0 := hdep ⟨0, .data⟩ (by simp) rfl
                    obtain ⟨x0, x0'⟩ := hAt.dep 0 (d := 266) (by omega) l0 (by rfl) (hM.fact 0 (by omega) l0)
                    have o1 := HI.out.at_ lz o1
                    go_simp
                    exact hK _ w5 (Below.refl _ _) HI.out rfl
                  | 2, _ =>
                    injection ho with ho
                    subst ho
                    obtain ⟨e22, e22'⟩ := hAt.slot 22 (by kernel_rfl) (by rfl)
                    go_simp
                    exact hK _ w5 (Below.refl _ _) HI.out rfl
                  | 3, _ =>
                    injection ho with ho
                    subst ho
                    have l2 := hdep ⟨2, .data⟩ (by simp) rfl
                    obtain ⟨x2, x2'⟩ := hAt.dep 2 (d := 268) (by omega) l2 (by rfl) (hM.fact 2 (by omega) l2)
                    go_simp
                    exact hK _ w5 (Below.refl _ _) HI.out ⟨_, rfl⟩
                  | 4, _ =>
                    injection ho with ho
                    subst ho
                    obtain ⟨e15, e15'⟩ := hAt.slot 15 (by kernel_rfl) (by rfl)
                    go_simp
                    exact hK _ w5 (Below.refl _ _) HI.out rfl
                  | 5, _ =>
                    injection ho with ho
                    subst ho
                    have l4 := hdep ⟨4, .data⟩ (by simp) rfl
                    obtain ⟨x4, x4'⟩ := hAt.dep 4 (d := 270) (by omega) l4 (by rfl) (hM.fact 4 (by omega) l4)
                    go_simp
                    exact hK _ w5 (Below.refl _ _) HI.out ⟨_, rfl⟩
                  | 6, _ =>
                    injection ho with ho
                    subst ho
                    have l3 := hdep ⟨3, .data⟩ (by simp) rfl
                    obtain ⟨d3, f3⟩ := hM.fact 3 (by omega) l3
                    obtain ⟨x3, x3'⟩ := hAt.dep 3 (d := 269) (by omega) l3 (by rfl) f3
                    have l5 := hdep ⟨5, .data⟩ (by simp) rfl
                    obtain ⟨d5, f5⟩ := hM.fact 5 (by omega) l5
                    obtain ⟨x5, x5'⟩ := hAt.dep 5 (d := 271) (by omega) l5 (by rfl) f5
                    go_simp
                    exact hK _ w5 (Below.refl _ _) HI.out ⟨_, rfl⟩
                  | 7, _ =>
                    injection ho with ho
                    subst ho
                    obtain ⟨e15, e15'⟩ := hAt.slot 15 (by kernel_rfl) (by rfl)
                    go_simp
                    exact hK _ w5 (Below.refl _ _) HI.out rfl
                  | 8, _ =>
                    injection ho with ho
                    subst ho
                    obtain ⟨e22, e22'⟩ := hAt.slot 22 (by kernel_rfl) (by rfl)
                    go_simp
                    exact hK _ w5 (Below.refl _ _) HI.out rfl
                  | 9, _ =>
                    injection ho with ho
                    subst ho
                    have l8 := hdep ⟨8, .data⟩ (by simp) rfl
                    obtain ⟨x8, x8'⟩ := hAt.dep 8 (d := 274) (by omega) l8 (by rfl) (hM.fact 8 (by omega) l8)
                    have z1 : IntKind.i64.wrap ((i : Int) + 1) = (i : Int) + 1 := IntWalk.i64_in _ (by omega)
                    go_simp
                    exact hK _ w5 (Below.refl _ _) HI.out rfl
                  | 10, _ =>
                    injection ho with ho
                    subst ho
                    have l7 := hdep ⟨7, .data⟩ (by simp) rfl
                    obtain ⟨x7, x7'⟩ := hAt.dep 7 (d := 273) (by omega) l7 (by rfl) (hM.fact 7 (by omega) l7)
                    have l9 := hdep ⟨9, .data⟩ (by simp) rfl
                    obtain ⟨x9, x9'⟩ := hAt.dep 9 (d := 275) (by omega) l9 (by rfl) (hM.fact 9 (by omega) l9)
                    go_simp
                    exact hK _ w5 (Below.refl _ _) HI.out ⟨_, rfl⟩
                  | 11, _ =>
                    injection ho with ho
                    subst ho
                    have l10 := hdep ⟨10, .data⟩ (by simp) rfl
                    obtain ⟨d10, f10⟩ := hM.fact 10 (by omega) l10
                    obtain ⟨x10, x10'⟩ := hAt.dep 10 (d := 276) (by omega) l10 (by rfl) f10
                    go_simp
                    exact hK _ w5 (Below.refl _ _) HI.out ⟨_, rfl⟩
                  | 12, _ =>
                    injection ho with ho
                    subst ho
                    have l11 := hdep ⟨11, .data⟩ (by simp) rfl
                    obtain ⟨d11, f11⟩ := hM.fact 11 (by omega) l11
                    obtain ⟨x11, x11'⟩ := hAt.dep 11 (d := 277) (by omega) l11 (by rfl) f11
                    go_simp
                    exact hK _ w5 (Below.refl _ _) HI.out ⟨_, rfl⟩
                  | 13, _ =>
                    injection ho with ho
                    subst ho
                    have l6 := hdep ⟨6, .data⟩ (by simp) rfl
                    obtain ⟨d6, f6⟩ := hM.fact 6 (by omega) l6
                    obtain ⟨x6, x6'⟩ := hAt.dep 6 (d := 272) (by omega) l6 (by rfl) f6
                    have l12 := hdep ⟨12, .data⟩ (by simp) rfl
                    obtain ⟨d12, f12⟩ := hM.fact 12 (by omega) l12
                    obtain ⟨x12, x12'⟩ := hAt.dep 12 (d := 278) (by omega) l12 (by rfl) f12
                    go_simp
                    exact hK _ w5 (Below.refl _ _) HI.out ⟨_, _, rfl⟩
                  | 14, _ =>
                    injection ho with ho
                    subst ho
                    have l13 := hdep ⟨13, .data⟩ (by simp) rfl
                    obtain ⟨ax, bx, f13⟩ := hM.fact 13 (by omega) l13
                    obtain ⟨x13, x13'⟩ := hAt.dep 13 (d := 279) (by omega) l13 (by rfl) f13
                    go_simp
                    exact hK _ _ (below_new _ _) (HI.out.alloc HI.out.size _) ⟨ax, bx, w5.heap.size, rfl, HI.out.size, by simp, news_new w5 [.int .i64 ax, .int .i64 bx] _ rfl⟩
                  | jq + 15, hq => exact absurd hq (by omega)
                · intro vals w5 hM
                  have HI := Lib.hid hM.inv
                  have f0 : vals 0 = .pointer (some ⟨gA, 0, none⟩) := hM.all (by decide) 0 (by omega)
                  have f1 : vals 1 = v := hM.all (by decide) 1 (by omega)
                  have f2 : vals 2 = .int .i64 i := hM.all (by decide) 2 (by omega)
                  have f4 : vals 4 = .int .i64 n := hM.all (by decide) 4 (by omega)
                  have f7 : vals 7 = .int .i64 n := hM.all (by decide) 7 (by omega)
                  have f8 : vals 8 = .int .i64 i := hM.all (by decide) 8 (by omega)
                  have f9 : vals 9 = .int .i64 ((i : Int) + 1) := hM.all (by decide) 9 (by omega)
                  obtain ⟨ax, bx, kx, f14, g1, g2, g3⟩ := hM.all (by decide) 14 (by omega)
                  clear hM
                  simp only [putAll, List.range, List.range.loop, List.foldl_cons, List.foldl_nil, f0, f1, f2, f4, f7, f8, f9, f14]
                  clear f0 f1 f2 f4 f7 f8 f9 f14
                  change wpAny _ _ _ _ _ _ (Act.put (Act.put (Act.put (Act.put (Act.put (Act.put (Act.put (Act.put (Act.put (Act.put (Act.put (Act.put (Act.put (Act.put (Act.put _ (some 266) _) (some 267) _) (some 268) _) (some 269) _) (some 270) _) (some 271) _) (some 272) _) (some 273) _) (some 274) _) (some 275) _) (some 276) _) (some 277) _) (some 278) _) (some 279) _) (some 280) _) _
                  simp only [Act.put, List.setIfInBounds_toArray, List.set_cons_zero, List.set_cons_succ]
                  have HC5 := Lib.hid (HC.out.next HI.out)
                  have hsz5 := HC5.out.far.sz
                  clear HC HI o1
                  refine tail_step 15 _ (by kernel_rfl) rfl rfl (fun K' hK => ?_)
                  refine wp_append_lies w5 _ _ _ rfl wm2.heap.size 39 j0 _ 2 16 Tryz.underlying29 jh0 jh1 jh2 jh3 rfl (by decide) _ i (pairs cs) rfl HC5.out.own ⟨kx, 0, none⟩ 1 1 [.int .i64 ax, .int .i64 bx] rfl rfl g3 (by simp [Value.oneCell']) (by omega) (by simp only [maxLen]; omega) (by omega) hsz5 _ rfl ?_
                  intro g17 cap17 w8 hown1 hgrow1 hat hlt8
                  refine hK _ _ ?_
                  clear hK K' hsz5 g3
                  have M := Col.app HC5.out (by omega) hown1 hgrow1
                  obtain ⟨u1, m1⟩ := M.o1
                  have m2 := M.of
                  have M2 := Lib.hid M.st
                  clear M hown1 hgrow1 hat HC5 hlt8
                  refine tail_step 16 _ (by kernel_rfl) rfl rfl (fun K' hK => ?_)
                  go_simp
                  refine hK _ _ ?_
                  clear hK K'
                  refine tail_step 17 _ (by kernel_rfl) rfl rfl (fun K' hK => ?_)
                  go_simp
                  refine hK _ _ ?_
                  clear hK K'
                  refine wpAny_done (by kernel_rfl) ?_ _
                  go_wp2_with fail
                  go_roundw
                  case rel => exact ⟨i + 1, cs ++ [(ax, bx)], _, by go_num, by omega, by show _ = _; simp [HLC.out], by rw [pairs_app]; exact M2.out⟩
                  case measure => simp [intOf]; omega
              · obtain rfl : i = N5 := by omega
                clear hil hl
                rw [← HLC.out] at HC
                obtain ⟨A5, c5, rfl, _, _⟩ := own_slice HC.out.own
                obtain ⟨wn, hwn⟩ : ∃ x, x = wr := ⟨_, rfl⟩
                have HD0 : Hid (Col wn wr gA 1 4 39 2 (cA2 (.slice A5 cs.length c5) gr la) 0 (pairs []) (.slice none 0 0)) := by rw [hwn]; exact col_second HC.out
                have HC1 := HC
                rw [← hwn] at HC1
                have zn : gA < wn.heap.size := by rw [hwn]; exact Nat.lt_of_lt_of_le zm HC.out.far.sz
                clear HC hwn HC0
                go_wp2_with fail
                obtain ⟨N6, hN6⟩ : ∃ N6 : Nat, (n : Int) / 5 % 4 = (N6 : Int) := ⟨n / 5 % 4, by omega⟩
                have hN6b : N6 ≤ 4 := by omega
                have HN6 := Lib.hid hN6
                rw [hN6]
                clear hN6
                go_loopw [287] (fun iv wr => ∃ (i : Nat) (ps : List (Int × Int)) (v : Value), iv = .int .i64 i ∧ i ≤ N6 ∧ Hid (ps.length = i) ∧ Hid (Col wn wr gA 1 4 39 2 (cA2 (.slice A5 cs.length c5) gr la) i (pairs ps) v)) (fun iv _ => N6 - (intOf iv).toNat)
                case atStart => exact ⟨0, [], _, rfl, by simp, rfl, HD0.out⟩
                case round =>
                  obtain ⟨i, ps, v, rfl, hl, HLP, HC⟩ := hrel
                  by_cases hil : i < N6
                  · have hilz : (i : Int) < N6 := by omega
                    have hi0 : (0 : Int) ≤ (i : Int) := by omega
                    have hi4 : (i : Int) ≤ 4 := by omega
                    have o1 := HC.out.o 1 (by omega)
                    rw [if_pos rfl] at o1
                    have lz := Nat.lt_of_lt_of_le zn HC.out.far.sz
                    go_upto_region 48 with fail
                    refine wp_inv 15 (by kernel_rfl) (by kernel_rfl) (by kernel_rfl) (by decide) (FL [PEq (.pointer (some ⟨gA, 1, none⟩)), PEq (v), PEq (.int .i64 i), PInt, PEq (.int .i64 n), PInt, PInt, PEq (.int .i64 n), PEq (.int .i64 i), PEq (.int .i64 ((i : Int) + 2)), PInt, PInt, PInt, PAg2, PRo2 wr.heap.size])
                      (fun x => Below wr.heap.size wr x) (fun x y => Below x.heap.size x y) (FL.keepB (by simp [stbB_ag2, stbB_eq, stbB_int, stbB_ro2])) (below_drew wr) ?_ ?_
                    · intro iq o hi' ho listed vals a w5 hdep hM hAt K hK
                      have HI := Lib.hid hM.inv
                      match iq, hi' with
                      | 0, _ =>
                        injection ho with ho
                        subst ho
                        obtain ⟨e21, e21'⟩ := hAt.slot 21 (by kernel_rfl) (by rfl)
                        go_simp
                        exact hK _ w5 (Below.refl _ _) HI.out rfl
                      | 1, _ =>
                        injection ho with ho
                        subst ho
                        have l0 := hdep ⟨0, .data⟩ (by simp) rfl
                        obtain ⟨x0, x0'⟩ := hAt.dep 0 (d := 290) (by omega) l0 (by rfl) (hM.fact 0 (by omega) l0)
                        have o1 := HI.out.at_ lz o1
                        go_simp
                        exact hK _ w5 (Below.refl _ _) HI.out rfl
                      | 2, _ =>
                        injection ho with ho
                        subst ho
                        obtain ⟨e23, e23'⟩ := hAt.slot 23 (by kernel_rfl) (by rfl)
                        go_simp
                        exact hK _ w5 (Below.refl _ _) HI.out rfl
                      | 3, _ =>
                        injection ho with ho
                        subst ho
                        have l2 := hdep ⟨2, .data⟩ (by simp) rfl
                        obtain ⟨x2, x2'⟩ := hAt.dep 2 (d := 292) (by omega) l2 (by rfl) (hM.fact 2 (by omega) l2)
                        go_simp
                        exact hK _ w5 (Below.refl _ _) HI.out ⟨_, rfl⟩
                      | 4, _ =>
                        injection ho with ho
                        subst ho
                        obtain ⟨e15, e15'⟩ := hAt.slot 15 (by kernel_rfl) (by rfl)
                        go_simp
                        exact hK _ w5 (Below.refl _ _) HI.out rfl
                      | 5, _ =>
                        injection ho with ho
                        subst ho
                        have l4 := hdep ⟨4, .data⟩ (by simp) rfl
                        obtain ⟨x4, x4'⟩ := hAt.dep 4 (d := 294) (by omega) l4 (by rfl) (hM.fact 4 (by omega) l4)
                        go_simp
                        exact hK _ w5 (Below.refl _ _) HI.out ⟨_, rfl⟩
                      | 6, _ =>
                        injection ho with ho
                        subst ho
                        have l3 := hdep ⟨3, .data⟩ (by simp) rfl
                        obtain ⟨d3, f3⟩ := hM.fact 3 (by omega) l3
                        obtain ⟨x3, x3'⟩ := hAt.dep 3 (d := 293) (by omega) l3 (by rfl) f3
                        have l5 := hdep ⟨5, .data⟩ (by simp) rfl
                        obtain ⟨d5, f5⟩ := hM.fact 5 (by omega) l5
                        obtain ⟨x5, x5'⟩ := hAt.dep 5 (d := 295) (by omega) l5 (by rfl) f5
                        go_simp
                        exact hK _ w5 (Below.refl _ _) HI.out ⟨_, rfl⟩
                      | 7, _ =>
                        injection ho with ho
                        subst ho
                        obtain ⟨e15, e15'⟩ := hAt.slot 15 (by kernel_rfl) (by rfl)
                        go_simp
                        exact hK _ w5 (Below.refl _ _) HI.out rfl
                      | 8, _ =>
                        injection ho with ho
                        subst ho
                        obtain ⟨e23, e23'⟩ := hAt.slot 23 (by kernel_rfl) (by rfl)
                        go_simp
                        exact hK _ w5 (Below.refl _ _) HI.out rfl
                      | 9, _ =>
                        injection ho with ho
                        subst ho
                        have l8 := hdep ⟨8, .data⟩ (by simp) rfl
                        obtain ⟨x8, x8'⟩ := hAt.dep 8 (d := 298) (by omega) l8 (by rfl) (hM.fact 8 (by omega) l8)
                        have z1 : IntKind.i64.wrap ((i : Int) + 2) = (i : Int) + 2 := IntWalk.i64_in _ (by omega)
                        go_simp
                        exact hK _ w5 (Below.refl _ _) HI.out rfl
                      | 10, _ =>
                        injection ho with ho
                        subst ho
                        have l7 := hdep ⟨7, .data⟩ (by simp) rfl
                        obtain ⟨x7, x7'⟩ := hAt.dep 7 (d := 297) (by omega) l7 (by rfl) (hM.fact 7 (by omega) l7)
                        have l9 := hdep ⟨9, .data⟩ (by simp) rfl
                        obtain ⟨x9, x9'⟩ := hAt.dep 9 (d := 299) (by omega) l9 (by rfl) (hM.fact 9 (by omega) l9)
                        go_simp
                        exact hK _ w5 (Below.refl _ _) HI.out ⟨_, rfl⟩
                      | 11, _ =>
                        injection ho with ho
                        subst ho
                        have l10 := hdep ⟨10, .data⟩ (by simp) rfl
                        obtain ⟨d10, f10⟩ := hM.fact 10 (by omega) l10
                        obtain ⟨x10, x10'⟩ := hAt.dep 10 (d := 300) (by omega) l10 (by rfl) f10
                        go_simp
                        exact hK _ w5 (Below.refl _ _) HI.out ⟨_, rfl⟩
                      | 12, _ =>
                        injection ho with ho
                        subst ho
                        have l11 := hdep ⟨11, .data⟩ (by simp) rfl
                        obtain ⟨d11, f11⟩ := hM.fact 11 (by omega) l11
                        obtain ⟨x11, x11'⟩ := hAt.dep 11 (d := 301) (by omega) l11 (by rfl) f11
                        go_simp
                        exact hK _ w5 (Below.refl _ _) HI.out ⟨_, rfl⟩
                      | 13, _ =>
                        injection ho with ho
                        subst ho
                        have l6 := hdep ⟨6, .data⟩ (by simp) rfl
                        obtain ⟨d6, f6⟩ := hM.fact 6 (by omega) l6
                        obtain ⟨x6, x6'⟩ := hAt.dep 6 (d := 296) (by omega) l6 (by rfl) f6
                        have l12 := hdep ⟨12, .data⟩ (by simp) rfl
                        obtain ⟨d12, f12⟩ := hM.fact 12 (by omega) l12
                        obtain ⟨x12, x12'⟩ := hAt.dep 12 (d := 302) (by omega) l12 (by rfl) f12
                        go_simp
                        exact hK _ w5 (Below.refl _ _) HI.out ⟨_, _, rfl⟩
                      | 14, _ =>
                        injection ho with ho
                        subst ho
                        have l13 := hdep ⟨13, .data⟩ (by simp) rfl
                        obtain ⟨ax, bx, f13⟩ := hM.fact 13 (by omega) l13
                        obtain ⟨x13, x13'⟩ := hAt.dep 13 (d := 303) (by omega) l13 (by rfl) f13
                        go_simp
                        exact hK _ _ (below_new _ _) (HI.out.alloc HI.out.size _) ⟨ax, bx, w5.heap.size, rfl, HI.out.size, by simp, news_new w5 [.int .i64 ax, .int .i64 bx] _ rfl⟩
                      | jq + 15, hq => exact absurd hq (by omega)
                    · intro vals w5 hM
                      have HI := Lib.hid hM.inv
                      have f0 : vals 0 = .pointer (some ⟨gA, 1, none⟩) := hM.all (by decide) 0 (by omega)
                      have f1 : vals 1 = v := hM.all (by decide) 1 (by omega)
                      have f2 : vals 2 = .int .i64 i := hM.all (by decide) 2 (by omega)
                      have f4 : vals 4 = .int .i64 n := hM.all (by decide) 4 (by omega)
                      have f7 : vals 7 = .int .i64 n := hM.all (by decide) 7 (by omega)
                      have f8 : vals 8 = .int .i64 i := hM.all (by decide) 8 (by omega)
                      have f9 : vals 9 = .int .i64 ((i : Int) + 2) := hM.all (by decide) 9 (by omega)
                      obtain ⟨ax, bx, kx, f14, g1, g2, g3⟩ := hM.all (by decide) 14 (by omega)
                      clear hM
                      simp only [putAll, List.range, List.range.loop, List.foldl_cons, List.foldl_nil, f0, f1, f2, f4, f7, f8, f9, f14]
                      clear f0 f1 f2 f4 f7 f8 f9 f14
                      change wpAny _ _ _ _ _ _ (Act.put (Act.put (Act.put (Act.put (Act.put (Act.put (Act.put (Act.put (Act.put (Act.put (Act.put (Act.put (Act.put (Act.put (Act.put _ (some 290) _) (some 291) _) (some 292) _) (some 293) _) (some 294) _) (some 295) _) (some 296) _) (some 297) _) (some 298) _) (some 299) _) (some 300) _) (some 301) _) (some 302) _) (some 303) _) (some 304) _) _
                      simp only [Act.put, List.setIfInBounds_toArray, List.set_cons_zero, List.set_cons_succ]
                      have HC5 := Lib.hid (HC.out.next HI.out)
                      have hsz5 := HC5.out.far.sz
                      clear HC HI o1
                      refine tail_step 15 _ (by kernel_rfl) rfl rfl (fun K' hK => ?_)
                      refine wp_append_lies w5 _ _ _ rfl wn.heap.size 39 j0 _ 2 16 Tryz.underlying29 jh0 jh1 jh2 jh3 rfl (by decide) _ i (pairs ps) rfl HC5.out.own ⟨kx, 0, none⟩ 1 1 [.int .i64 ax, .int .i64 bx] rfl rfl g3 (by simp [Value.oneCell']) (by omega) (by simp only [maxLen]; omega) (by omega) hsz5 _ rfl ?_
                      intro g17 cap17 w8 hown1 hgrow1 hat hlt8
                      refine hK _ _ ?_
                      clear hK K' hsz5 g3
                      have M := Col.app HC5.out (by omega) hown1 hgrow1
                      obtain ⟨u1, m1⟩ := M.o1
                      have m2 := M.of
                      have M2 := Lib.hid M.st
                      clear M hown1 hgrow1 hat HC5 hlt8
                      refine tail_step 16 _ (by kernel_rfl) rfl rfl (fun K' hK => ?_)
                      go_simp
                      refine hK _ _ ?_
                      clear hK K'
                      refine tail_step 17 _ (by kernel_rfl) rfl rfl (fun K' hK => ?_)
                      go_simp
                      refine hK _ _ ?_
                      clear hK K'
                      refine wpAny_done (by kernel_rfl) ?_ _
                      go_wp2_with fail
                      go_roundw
                      case rel => exact ⟨i + 1, ps ++ [(ax, bx)], _, by go_num, by omega, by show _ = _; simp [HLP.out], by rw [pairs_app]; exact M2.out⟩
                      case measure => simp [intOf]; omega
                  · obtain rfl : i = N6 := by omega
                    clear hil hl
                    rw [← HLP.out] at HC
                    obtain ⟨B6, d6, rfl, hac⟩ := ac_of HC1.out HC.out HBM.out HGE.out
                    have HAC := Lib.hid hac
                    clear hac HC HC1 HBM HGE zm zn HD0
                    obtain ⟨k0, k1, k2, k3⟩ := HAC.out.k
                    go_wp2_with fail
                    refine (HAC.out.accounts _).mono ?_
                    rintro e w6 ⟨rfl, hb6⟩
                    have HFIN := Lib.hid (HAC.out.next hb6).bw
                    clear HAC k0 k1 k2 k3 hb6
                    go_wp2_with fail
                    exact HK.out _ _ _ _ _ _ _ _ _ _ _ _ _ _ _ _ _ _ _ _ _ _ _ _ _ _ _ _ _ _ _ _ _ _ _ _ _ _ _ _ _ _ _ _ _ _ _ _ _ _ _ _ _ _ _ _ _ _ _ _ _ _ _ _ _ _ _ _ _ _ _ _ _ _ _ _ _ _ _ _ _ _ _ _ _ _ _ _ _ _ _ _ _ _ _ _ _ _ _ _ _ _ _ _ _ _ _ _ _ _ _ _ _ _ _ _ _ _ _ _ _ _ _ _ _ _ _ _ _ _ _ _ _ _ _ _ _ _ _ _ _ _ _ _ _ _ _ _ _ _ _ _ _ _ _ _ _ _ _ _ _ _ _ _ _ _ _ _ HFIN
end Go.Proofs.YtfojjecnmfkcfaaGreat
