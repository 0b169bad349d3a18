/- FeeSmall: a round of its last loop. -/
import Derived.Test.YtfojjecnmfkcfaaGreatSmP75
import Derived.Test.YtfojjecnmfkcfaaGreatSmP77
import Derived.Deep.DeepCutAuto
import Derived.StillTailTactics
namespace Go.Proofs.YtfojjecnmfkcfaaGreat
open Go.ChangeShapes Go.WideShapes Go.ChangeAt Go.RowKit Go.Joins
set_option linter.unusedVariables false
set_option maxRecDepth 100000 in
set_option maxHeartbeats 8000000 in
theorem sm_r7 {u0 u1 u2 u3 u4 u5 u6 u7 u8 u9 u10 u11 u12 u13 u14 u15 u16 u17 u18 u19 u20 u21 u22 u23 u24 u25 u26 u27 u28 u29 u30 u31 u32 u33 u34 u35 u36 u37 u38 u39 u40 u41 u42 u43 u44 u45 u46 u47 u48 u49 u50 u51 u52 u53 u54 u55 u56 u57 u58 u59 u60 u61 u62 u63 u64 u65 u66 u67 u68 u69 u70 u71 u72 u73 u74 u75 u76 u77 u78 u79 u80 u81 u82 u83 u84 u85 u86 u87 u88 u89 u90 u91 u92 u93 u94 u95 u96 u97 u98 u99 u100 u101 u102 u103 u104 u105 u106 u107 u108 u109 u110 u111 u112 u113 u114 u115 u116 u117 u118 u119 u120 u121 u122 u123 u124 u125 u126 u127 u128 u129 u130 u131 u132 u133 u134 u135 u136 u137 u138 u139 u140 u141 u142 u143 u144 u145 u146 u147 u148 u149 u150 u151 u152 u153 u154 u155 u156 u157 u158 u159 u160 u161 u162 u163 u164 u165 u166 u167 u168 u169 u170 u171 u172 u173 u174 u175 u176 u177 u178 u179 u180 u181 u182 u183 u184 u185 u186 u187 u188 u189 u190 u191 u192 u193 u194 u195 u196 u197 u198 u199 u200 u201 u202 u203 u204 u205 u206 u207 u208 u209 u210 u211 u212 u213 u214 u215 u216 u217 u218 u219 u220 u221 u222 u223 u224 u225 u226 u227 u228 u229 u230 u231 u232 u233 u234 u235 u236 u237 u238 u239 u240 u241 u242 u243 u244 u245 u246 u247 u248 u249 u250 u251 u252 u253 u254 u255 u256 u257 u258 u259 u260 u261 u262 u263 u264 u265 u266 u267 u268 u269 u270 u271 u272 u273 u274 u275 u276 u277 u278 u279 u280 u281 u282 u283 u284 u285 u286 u287 u288 u289 u290 u291 u292 u293 u294 u295 u296 u297 u298 u299 u300 u301 u302 u303 u304 u305 u306 u307 u308 u309 u310 u311 u312 u313 u315 u316 u317 u318 u319 u320 u321 u322 u323 u324 u325 u326 u327 u328 u329 u330 u331 u332 u333 u334 u335 u336 u337 u338 u339 u340 u341 u342 u343 u344 u345 u346 u347 u348 u349 u350 u351 u352 u353 u354 u355 u356 u357 u358 u359 u360 u361 u362 u363 u364 u365 u366 u367 u368 u369 u370 u371 u372 u373 u374 u375 u376 u377 u378 u379 u380 u381 u382 u383 u384 u385 u386 u387 u388 u389 u390 u391 u392 u393 u394 u395 u396 u397 u398 u399 u400 u401 u402 u403 u404 u405 u406 u407 u408 u409 u410 u411 u412 u413 u414 u415 u416 u417 u418 u419 u420 u421 u422 u423 u424 u425 u426 u427 u428 : Value} {wC wr : World} {n : Nat} {K : Act → World → Prop} {Q0 : Exit → Act → World → Prop} (HB : Hid (Below wC.heap.size wC wr)) (hlt : n < 11)
    (hK : ∀ (x24 x25 x26 x27 x28 x29 x30 x315 x316 x317 x318 x319 x320 x321 x322 x323 x324 x325 x326 x327 x328 x329 x330 x331 x332 x333 x334 x335 x336 x337 x338 x339 x340 x341 x342 x343 x344 x345 x346 x347 x348 x349 x350 x351 x352 x353 x354 x355 x356 x357 x358 x359 x360 x361 x362 x363 x364 x365 x366 x367 x368 x369 x370 x371 x372 x373 x374 x375 x376 x377 x378 x379 x380 x381 x382 x383 x384 x385 x386 x387 x388 x389 x390 x391 x392 x393 x394 x395 x396 x397 x398 x399 x400 x401 x402 x403 x404 x405 x406 x407 x408 x409 x410 x411 x412 x413 x414 x415 x416 x417 x418 x419 x420 x421 x422 x423 x424 x425 x426 x427 : Value) (wx : World), Hid (Below wC.heap.size wC wx) → K ⟨#[u0, u1, u2, u3, u4, u5, u6, u7, u8, u9, u10, u11, u12, u13, u14, u15, u16, u17, u18, u19, u20, u21, u22, u23, x24, x25, x26, x27, x28, x29, x30, u31, u32, u33, u34, u35, u36, u37, u38, u39, u40, u41, u42, u43, u44, u45, u46, u47, u48, u49, u50, u51, u52, u53, u54, u55, u56, u57, u58, u59, u60, u61, u62, u63, u64, u65, u66, u67, u68, u69, u70, u71, u72, u73, u74, u75, u76, u77, u78, u79, u80, u81, u82, u83, u84, u85, u86, u87, u88, u89, u90, u91, u92, u93, u94, u95, u96, u97, u98, u99, u100, u101, u102, u103, u104, u105, u106, u107, u108, u109, u110, u111, u112, u113, u114, u115, u116, u117, u118, u119, u120, u121, u122, u123, u124, u125, u126, u127, u128, u129, u130, u131, u132, u133, u134, u135, u136, u137, u138, u139, u140, u141, u142, u143, u144, u145, u146, u147, u148, u149, u150, u151, u152, u153, u154, u155, u156, u157, u158, u159, u160, u161, u162, u163, u164, u165, u166, u167, u168, u169, u170, u171, u172, u173, u174, u175, u176, u177, u178, u179, u180, u181, u182, u183, u184, u185, u186, u187, u188, u189, u190, u191, u192, u193, u194, u195, u196, u197, u198, u199, u200, u201, u202, u203, u204, u205, u206, u207, u208, u209, u210, u211, u212, u213, u214, u215, u216, u217, u218, u219, u220, u221, u222, u223, u224, u225, u226, u227, u228, u229, u230, u231, u232, u233, u234, u235, u236, u237, u238, u239, u240, u241, u242, u243, u244, u245, u246, u247, u248, u249, u250, u251, u252, u253, u254, u255, u256, u257, u258, u259, u260, u261, u262, u263, u264, u265, u266, u267, u268, u269, u270, u271, u272, u273, u274, u275, u276, u277, u278, u279, u280, u281, u282, u283, u284, u285, u286, u287, u288, u289, u290, u291, u292, u293, u294, u295, u296, u297, u298, u299, u300, u301, u302, u303, u304, u305, u306, u307, u308, u309, u310, u311, u312, u313, .int .i64 ((n : Int) + 1), x315, x316, x317, x318, x319, x320, x321, x322, x323, x324, x325, x326, x327, x328, x329, x330, x331, x332, x333, x334, x335, x336, x337, x338, x339, x340, x341, x342, x343, x344, x345, x346, x347, x348, x349, x350, x351, x352, x353, x354, x355, x356, x357, x358, x359, x360, x361, x362, x363, x364, x365, x366, x367, x368, x369, x370, x371, x372, x373, x374, x375, x376, x377, x378, x379, x380, x381, x382, x383, x384, x385, x386, x387, x388, x389, x390, x391, x392, x393, x394, x395, x396, x397, x398, x399, x400, x401, x402, x403, x404, x405, x406, x407, x408, x409, x410, x411, x412, x413, x414, x415, x416, x417, x418, x419, x420, x421, x422, x423, x424, x425, x426, x427, u428], []⟩ wx) :
    Code.wp Tryz.prog (smBody 2) (Exit.then K Q0) ⟨#[u0, u1, u2, u3, u4, u5, u6, u7, u8, u9, u10, u11, u12, u13, u14, u15, u16, u17, u18, u19, u20, u21, u22, u23, u24, u25, u26, u27, u28, u29, u30, u31, u32, u33, u34, u35, u36, u37, u38, u39, u40, u41, u42, u43, u44, u45, u46, u47, u48, u49, u50, u51, u52, u53, u54, u55, u56, u57, u58, u59, u60, u61, u62, u63, u64, u65, u66, u67, u68, u69, u70, u71, u72, u73, u74, u75, u76, u77, u78, u79, u80, u81, u82, u83, u84, u85, u86, u87, u88, u89, u90, u91, u92, u93, u94, u95, u96, u97, u98, u99, u100, u101, u102, u103, u104, u105, u106, u107, u108, u109, u110, u111, u112, u113, u114, u115, u116, u117, u118, u119, u120, u121, u122, u123, u124, u125, u126, u127, u128, u129, u130, u131, u132, u133, u134, u135, u136, u137, u138, u139, u140, u141, u142, u143, u144, u145, u146, u147, u148, u149, u150, u151, u152, u153, u154, u155, u156, u157, u158, u159, u160, u161, u162, u163, u164, u165, u166, u167, u168, u169, u170, u171, u172, u173, u174, u175, u176, u177, u178, u179, u180, u181, u182, u183, u184, u185, u186, u187, u188, u189, u190, u191, u192, u193, u194, u195, u196, u197, u198, u199, u200, u201, u202, u203, u204, u205, u206, u207, u208, u209, u210, u211, u212, u213, u214, u215, u216, u217, u218, u219, u220, u221, u222, u223, u224, u225, u226, u227, u228, u229, u230, u231, u232, u233, u234, u235, u236, u237, u238, u239, u240, u241, u242, u243, u244, u245, u246, u247, u248, u249, u250, u251, u252, u253, u254, u255, u256, u257, u258, u259, u260, u261, u262, u263, u264, u265, u266, u267, u268, u269, u270, u271, u272, u273, u274, u275, u276, u277, u278, u279, u280, u281, u282, u283, u284, u285, u286, u287, u288, u289, u290, u291, u292, u293, u294, u295, u296, u297, u298, u299, u300, u301, u302, u303, u304, u305, u306, u307, u308, u309, u310, u311, u312, u313, .int .i64 n, u315, u316, u317, u318, u319, u320, u321, u322, u323, u324, u325, u326, u327, u328, u329, u330, u331, u332, u333, u334, u335, u336, u337, u338, u339, u340, u341, u342, u343, u344, u345, u346, u347, u348, u349, u350, u351, u352, u353, u354, u355, u356, u357, u358, u359, u360, u361, u362, u363, u364, u365, u366, u367, u368, u369, u370, u371, u372, u373, u374, u375, u376, u377, u378, u379, u380, u381, u382, u383, u384, u385, u386, u387, u388, u389, u390, u391, u392, u393, u394, u395, u396, u397, u398, u399, u400, u401, u402, u403, u404, u405, u406, u407, u408, u409, u410, u411, u412, u413, u414, u415, u416, u417, u418, u419, u420, u421, u422, u423, u424, u425, u426, u427, u428], []⟩ wr := by
  conv => arg 2; whnf
  have HK := Lib.hid hK
  clear hK
  obtain ⟨s0, sh0, sh1, sh2, sh3⟩ := info_parts infoStepS
  obtain ⟨i0, ih0, ih1, ih2, ih3⟩ := info_parts infoHouseS
  obtain ⟨j0, jh0, jh1, jh2, jh3⟩ := info_parts infoEntryS
  have hnz : (n : Int) < 11 := by omega
  have hn0 : (0 : Int) ≤ (n : Int) := by omega
  go_upto_region 60 with fail
  have HW : Hid (∀ W, W = (wr.alloc (.cells #[.int .i64 n, .slice none 0 0] 27)).alloc (.cells #[.slice none 0 0, .slice none 0 0, .int .i64 0, .int .i64 0] 31) → Below wr.heap.size wr W ∧ W.heap.size = wr.heap.size + 2 ∧ (∀ j u, [Value.int .i64 n, .slice none 0 0][j]? = some u → W.cell? ⟨wr.heap.size, j, none⟩ = some u) ∧ (∀ o, W.frozen? ⟨wr.heap.size, o, none⟩ = false) ∧ CA4 W (wr.heap.size + 1) (.slice none 0 0) (.slice none 0 0) (.int .i64 0) (.int .i64 0) ∧ ∀ o, W.frozen? ⟨wr.heap.size + 1, o, none⟩ = false) := by
    show ∀ W, _
    rintro W rfl
    have kb := below_new (wr.alloc (.cells #[.int .i64 n, .slice none 0 0] 27)) (.cells #[.slice none 0 0, .slice none 0 0, .int .i64 0, .int .i64 0] 31)
    have z1 : (wr.alloc (.cells #[.int .i64 n, .slice none 0 0] 27)).heap.size = wr.heap.size + 1 := by simp
    have k2 := fun j u (h : [Value.slice none 0 0, .slice none 0 0, .int .i64 0, .int .i64 0][j]? = some u) => new_cell (wr.alloc (.cells #[.int .i64 n, .slice none 0 0] 27)) _ 31 _ j z1 h
    refine ⟨(below_new wr _).trans (kb.mono (by simp)), by simp, fun j u hu => kb.at_ (by simp) (new_cell wr _ 27 _ j rfl hu), fun o => (kb.frozen (p := ⟨wr.heap.size, o, none⟩) (by simp)).trans (new_free _ _ _ _ _ rfl), ⟨k2 0 _ rfl, k2 1 _ rfl, k2 2 _ rfl, k2 3 _ rfl⟩, fun o => new_free _ _ _ _ _ z1⟩
  generalize hw7 : World.alloc (World.alloc wr _) _ = w7
  obtain ⟨b7, z7, hcB, hfB, hcA, hfA⟩ := HW.out w7 hw7.symm
  clear HW hw7
  have HB7 := Lib.hid (HB.out.trans (b7.mono HB.out.size))
  have HGB : Hid (wC.heap.size ≤ wr.heap.size) := HB.out.size
  have lB : wr.heap.size < w7.heap.size := by omega
  have lA : wr.heap.size + 1 < w7.heap.size := by omega
  have HCB := Lib.hid hcB
  have HFB := Lib.hid hfB
  have HCA := Lib.hid hcA
  have HFA := Lib.hid hfA
  have nAB : wr.heap.size ≠ wr.heap.size + 1 := by omega
  have HGA : Hid (wC.heap.size ≤ wr.heap.size + 1) := by have := HGB.out; show _ ≤ _; omega
  generalize wr.heap.size + 1 = gA at *
  generalize wr.heap.size = gB at *
  clear hcB hfB hcA hfA b7 z7 HB wr
  go_cut [320, 321] from 319 to 319 (fun a b wx => a = .int .i64 ((min n 6 : Nat) : Int) ∧ b = .int .i64 0 ∧ Hid (wx = w7))
  case first =>
    by_cases h6 : (6 : Int) < (n : Int)
    · have e6 : ((min n 6 : Nat) : Int) = 6 := by omega
      have E6 := Lib.hid e6
      clear e6
      go_wp2_with fail
      go_meet
      case rel => exact ⟨by rw [E6.out], rfl, rfl⟩
    · have e6 : ((min n 6 : Nat) : Int) = (n : Int) := by omega
      have E6 := Lib.hid e6
      clear e6
      go_wp2_with fail
      go_meet
      case rel => exact ⟨by rw [E6.out], rfl, rfl⟩
  case rest =>
    obtain ⟨rfl, rfl, hwx⟩ := hcut
    obtain rfl : wc = w7 := hwx.out
    clear hwx
    obtain ⟨w7, hw7⟩ : ∃ x, x = wc := ⟨_, rfl⟩
    subst hw7
    obtain ⟨M6, hM6⟩ : ∃ M6 : Nat, M6 = min n 6 := ⟨_, rfl⟩
    rw [← hM6]
    have hM6b : M6 ≤ 6 := by omega
    have HM6 := Lib.hid hM6
    clear hM6
    go_wp2_with fail
    go_loopw [25, 321] (fun tv iv wx => ∃ (i : Nat) (v : Value), v = tv ∧ iv = .int .i64 i ∧ i ≤ M6 ∧ wx.ownsRow w7.heap.size 35 2 v i (pairs (tarS i)) ∧ Hid (Below w7.heap.size w7 wx)) (fun _ iv _ => M6 - (intOf iv).toNat)
    case atStart => exact ⟨0, _, rfl, rfl, by omega, World.ownsRow_nil _ _ _ _, Below.refl _ _⟩
    case round =>
      obtain ⟨i, v, hv, rfl, hi, hown, HB⟩ := hrel
      subst hv
      by_cases hil : i < M6
      · have hilz : (i : Int) < M6 := by omega
        have HSN := Lib.hid (tarS_succ i)
        have HO := Lib.hid hown
        have hs7 := HB.out.size
        clear hown
        obtain ⟨A0, c0, rfl, _, _⟩ := own_slice HO.out
        go_wp2_with (at_builtin; refine wpList_append_own_at _ rfl _ _ 23 rfl w7.heap.size 35 s0 _ 2 16 Tryz.underlying23 sh0 sh1 sh2 sh3 rfl (by decide) _ _ _ rfl (HO.out.alloc _) ⟨wr.heap.size, 0, none⟩ 1 1 [.int .i64 (10 + i), .int .i64 (100 * i)] rfl rfl (news_new _ _ _ rfl) (by simp [Value.oneCell']) (by simp only [maxLen]; omega) (by omega) (by simp; omega) ?_; intro v1 wx hown1 hgrow1 _ hat1; rw [← HSN.out] at hown1; have HO1 := Lib.hid hown1; clear hown1)
        go_roundw
        case rel => exact ⟨i + 1, _, rfl, by go_num, by omega, HO1.out, (HB.out.alloc HB.out.size _).grown hgrow1 (by have := HB.out.size; simp; omega) (fun q hq => (HO.out.lt q hq).1)⟩
        case measure => simp [intOf]; omega
      · obtain rfl : M6 = i := by omega
        obtain ⟨w8, hw8⟩ : ∃ x, x = wr := ⟨_, rfl⟩
        subst hw8
        have HT := Lib.hid hown
        obtain ⟨A0, c0, rfl, _, _⟩ := own_slice hown
        clear hown hil hi
        have HC8 : Hid (Col w8 w8 gB 1 2 37 3 (fun _ => .int .i64 n) 0 (trips (houS 0)) (.slice none 0 0)) := by
          refine col_start (Nat.lt_of_lt_of_le lB HB.out.size) (fun j hj => ?_) (fun j hj => (HB.out.frozen (p := ⟨gB, j, none⟩) lB).trans (HFB.out j))
          match j, hj with
          | 0, _ => exact HB.out.at_ lB (HCB.out 0 _ rfl)
          | 1, _ => exact HB.out.at_ lB (HCB.out 1 _ rfl)
        go_upto_region 65 with fail
        go_cut [334, 335] from 333 to 333 (fun a b wx => a = .int .i64 ((min n 8 : Nat) : Int) ∧ b = .int .i64 0 ∧ Hid (wx = w8))
        case first =>
          by_cases h6 : (8 : Int) < (n : Int)
          · have e6 : ((min n 8 : Nat) : Int) = 8 := by omega
            have E6 := Lib.hid e6
            clear e6
            go_wp2_with fail
            go_meet
            case rel => exact ⟨by rw [E6.out], rfl, rfl⟩
          · have e6 : ((min n 8 : Nat) : Int) = (n : Int) := by omega
            have E6 := Lib.hid e6
            clear e6
            go_wp2_with fail
            go_meet
            case rel => exact ⟨by rw [E6.out], rfl, rfl⟩
        case rest =>
          obtain ⟨rfl, rfl, hwx⟩ := hcut
          obtain rfl : wc = w8 := hwx.out
          clear hwx
          obtain ⟨w8, hw8⟩ : ∃ x, x = wc := ⟨_, rfl⟩
          subst hw8
          obtain ⟨M8, hM8⟩ : ∃ M8 : Nat, M8 = min n 8 := ⟨_, rfl⟩
          rw [← hM8]
          have hM8b : M8 ≤ 8 := by omega
          have HM8 := Lib.hid hM8
          clear hM8
          have l8 := HB.out.size
          go_wp2_with fail
          go_loopw [335] (fun iv wx => ∃ (i : Nat) (v : Value), iv = .int .i64 i ∧ i ≤ M8 ∧ Hid (Col w8 wx gB 1 2 37 3 (fun _ => .int .i64 n) i (trips (houS i)) v)) (fun iv _ => M8 - (intOf iv).toNat)
          case atStart => exact ⟨0, _, rfl, by omega, HC8.out⟩
          case round =>
            obtain ⟨i, v, rfl, hi, HC⟩ := hrel
            by_cases hil : i < M8
            · have hilz : (i : Int) < M8 := by omega
              have o1 := HC.out.o 1 (by omega)
              rw [if_pos rfl] at o1
              have lz : gB < wr.heap.size := Nat.lt_of_lt_of_le HC.out.lt HC.out.far.sz
              have hs8 := HC.out.far.sz
              have HSN := Lib.hid (houS_succ i)
              have HA := Lib.hid (fun x => HC.out.alloc x)
              obtain ⟨A1, c1, rfl, _, _⟩ := own_slice HC.out.own
              go_wp2_with (at_builtin; refine wpList_append_own_at _ rfl _ _ 25 rfl w8.heap.size 37 i0 _ 3 24 Tryz.underlying25 ih0 ih1 ih2 ih3 rfl (by decide) _ _ _ rfl (HA.out _).own ⟨wr.heap.size, 0, none⟩ 1 1 [.int .i64 i, .int .i64 0, .int .i64 9] rfl rfl (news_new _ _ _ rfl) (by simp [Value.oneCell']) (by simp only [maxLen]; omega) (by omega) (by simp; omega) ?_; intro v1 wx hown1 hgrow1 _ hat1; obtain ⟨B1, cc1, rfl, _, _⟩ := own_slice hown1; have M := Col.app (HA.out _) (by omega) hown1 hgrow1; rw [← HSN.out] at M; obtain ⟨u1, m1⟩ := M.o1; have m2 := M.of; have M2 := Lib.hid M.st; clear M hown1 hgrow1 hat1)
              go_roundw
              case rel => exact ⟨i + 1, _, by go_num, by omega, M2⟩
              case measure => simp [intOf]; omega
            · obtain rfl : M8 = i := by omega
              obtain ⟨w9, hw9⟩ : ∃ x, x = wr := ⟨_, rfl⟩
              subst hw9
              have HCb := HC
              obtain ⟨A1, c1, rfl, _, _⟩ := own_slice HC.out.own
              clear HC HC8 hil hi
              have l9 := HCb.out.far.sz
              have HA0 : Hid (Acol w9 w9 gA (chaS 0) (payS 0) 0 (.slice none 0 0) (.slice none 0 0)) := by
                have kk := HCA.out.next lA HB.out
                have cc : ∀ o, w9.cell? ⟨gA, o, none⟩ = w8.cell? ⟨gA, o, none⟩ := fun o => HCb.out.far.cell (by omega) (Ne.symm nAB)
                refine ⟨World.ownsRow_nil _ _ _ _, World.ownsRow_nil _ _ _ _, (fun b e => by cases e), FarB.refl _ _, by omega, ⟨(cc 0).trans kk.c0, (cc 1).trans kk.c1, (cc 2).trans kk.c2, (cc 3).trans kk.c3⟩, fun o => ?_⟩
                exact (HCb.out.far.frozen (by omega) (Ne.symm nAB)).trans ((HB.out.frozen (p := ⟨gA, o, none⟩) lA).trans (HFA.out o))
              go_upto_region 70 with fail
              go_cut [347, 348] from 346 to 346 (fun a b wx => a = .int .i64 ((min n 10 : Nat) : Int) ∧ b = .int .i64 0 ∧ Hid (wx = w9))
              case first =>
                by_cases h6 : (10 : Int) < (n : Int)
                · omega
                · have e6 : ((min n 10 : Nat) : Int) = (n : Int) := by omega
                  have E6 := Lib.hid e6
                  clear e6
                  go_wp2_with fail
                  go_meet
                  case rel => exact ⟨by rw [E6.out], rfl, rfl⟩
              case rest =>
                obtain ⟨rfl, rfl, hwx⟩ := hcut
                obtain rfl : wc = w9 := hwx.out
                clear hwx
                obtain ⟨w9, hw9⟩ : ∃ x, x = wc := ⟨_, rfl⟩
                subst hw9
                obtain ⟨M10, hM10⟩ : ∃ M10 : Nat, M10 = min n 10 := ⟨_, rfl⟩
                rw [← hM10]
                have hM10b : M10 ≤ 10 := by omega
                have HM10 := Lib.hid hM10
                clear hM10
                go_wp2_with fail
                go_loopw [348] (fun iv wx => ∃ (i : Nat) (v u : Value), iv = .int .i64 i ∧ i ≤ M10 ∧ Hid (Acol w9 wx gA (chaS i) (payS i) i v u)) (fun iv _ => M10 - (intOf iv).toNat)
                case atStart => exact ⟨0, _, _, rfl, by omega, HA0.out⟩
                case round =>
                  obtain ⟨i, v, u, rfl, hi, HA⟩ := hrel
                  by_cases hil : i < M10
                  · have hilz : (i : Int) < M10 := by omega
                    have hi0 : (0 : Int) ≤ (i : Int) := by omega
                    have hi9 : (i : Int) ≤ 10 := by omega
                    have SV := HA.out.ov.lt
                    have SU := HA.out.ou.lt
                    have lz : gA < wr.heap.size := Nat.lt_of_lt_of_le HA.out.lt HA.out.far.sz
                    have HCELL : Hid (∀ wx, Grow2 wr wx v.ownBlock u.ownBlock → wx.cell? ⟨gA, 0, none⟩ = some v ∧ wx.cell? ⟨gA, 1, none⟩ = some u ∧ gA < wx.heap.size) := by
                      show ∀ wx, _
                      intro wx hg
                      have hb := hg.block gA lz (fun e => by have := (SV gA e.symm).1; have := HA.out.lt; omega) (fun e => by have := (SU gA e.symm).1; have := HA.out.lt; omega)
                      exact ⟨(World.cell?_of_block (a := ⟨gA, 0, none⟩) hb).trans HA.out.k.c0, (World.cell?_of_block (a := ⟨gA, 1, none⟩) hb).trans HA.out.k.c1, Nat.lt_of_lt_of_le lz hg.size⟩
                    have HSC := Lib.hid (chaS_succ i)
                    have HSP := Lib.hid (payS_succ i)
                    have hs9 := HA.out.far.sz
                    go_upto_region 73 with fail
                    obtain ⟨wd, hwd⟩ : ∃ x, x = wr.drew := ⟨_, rfl⟩
                    have HAd : Hid (Acol w9 wd gA (chaS i) (payS i) i v u) := by rw [hwd]; exact HA.out.next (below_drew wr)
                    have HCELL : Hid (∀ wx, Grow2 wd wx v.ownBlock u.ownBlock → wx.cell? ⟨gA, 0, none⟩ = some v ∧ wx.cell? ⟨gA, 1, none⟩ = some u ∧ gA < wx.heap.size) := by
                      rw [hwd]
                      show ∀ wx, _
                      intro wx hg
                      exact HCELL.out wx ⟨hg.os, hg.tape, hg.output, hg.size, hg.block⟩
                    have zd : wr.heap.size = wd.heap.size := by rw [hwd]; rfl
                    rw [zd] at SV SU hs9 lz
                    clear HA
                    have hSV : ∀ q ∈ [PEq (.pointer (some ⟨gA, 0, none⟩)), PEq v, PEq (.int .i64 i), PEq (.agg #[.int .i64 i, .int .i64 1]), PRow wd.heap.size [.int .i64 i, .int .i64 1], PEq v, PEq (.pointer (some ⟨gA, 1, none⟩)), PEq u, PEq (.int .i64 i), PEq (.int .i64 (i + 1)), PEq (.agg #[.int .i64 (i + 1), .int .i64 1]), PRow wd.heap.size [.int .i64 (i + 1), .int .i64 1], PEq u, PEq (.pointer (some ⟨gA, 0, none⟩))], StbO v.ownBlock q := by
                      simp [stbO_eq, stbO_row (fun b e => (SV b e).2)]
                    have hSU : ∀ q ∈ [PEq (.pointer (some ⟨gA, 0, none⟩)), PEq v, PEq (.int .i64 i), PEq (.agg #[.int .i64 i, .int .i64 1]), PRow wd.heap.size [.int .i64 i, .int .i64 1], PEq v, PEq (.pointer (some ⟨gA, 1, none⟩)), PEq u, PEq (.int .i64 i), PEq (.int .i64 (i + 1)), PEq (.agg #[.int .i64 (i + 1), .int .i64 1]), PRow wd.heap.size [.int .i64 (i + 1), .int .i64 1], PEq u, PEq (.pointer (some ⟨gA, 0, none⟩))], StbO u.ownBlock q := by
                      simp [stbO_eq, stbO_row (fun b e => (SU b e).2)]
                    have hapU : ∀ b, u.ownBlock = some b → v.ownBlock ≠ some b ∧ b < wd.heap.size := fun b e => ⟨HAd.out.ap b e, (SU b e).2⟩
                    have hapV : u.ownBlock = none ∨ u.ownBlock ≠ v.ownBlock := by
                      cases e : u.ownBlock with
                      | none => exact .inl rfl
                      | some b => exact .inr fun e2 => HAd.out.ap b e e2.symm
                    refine wp_genW 14 (by kernel_rfl) (by kernel_rfl) (by kernel_rfl) (by decide) (S73 wd w9.heap.size [PEq (.pointer (some ⟨gA, 0, none⟩)), PEq v, PEq (.int .i64 i), PEq (.agg #[.int .i64 i, .int .i64 1]), PRow wd.heap.size [.int .i64 i, .int .i64 1], PEq v, PEq (.pointer (some ⟨gA, 1, none⟩)), PEq u, PEq (.int .i64 i), PEq (.int .i64 (i + 1)), PEq (.agg #[.int .i64 (i + 1), .int .i64 1]), PRow wd.heap.size [.int .i64 (i + 1), .int .i64 1], PEq u, PEq (.pointer (some ⟨gA, 0, none⟩))] v u i (pairs (chaS i)) (pairs (chaS i) ++ [.int .i64 i, .int .i64 1]) (pairs (payS i)) (pairs (payS i) ++ [.int .i64 (i + 1), .int .i64 1])) (fun vals => ?_) ?_ ?_
                    · rw [← hwd]
                      exact ⟨Grow2.refl _ _ _, (fun j _ _ _ h => by cases h), fun _ => HAd.out.ov, (fun h => by cases h), fun _ => HAd.out.ou, (fun h => by cases h)⟩
                    · intro iq o hi2 ho listed vals a w5 hl hdep hM hAt K hK
                      match iq, hi2 with
                      | 0, _ =>
                        injection ho with ho
                        subst ho
                        obtain ⟨e, e'⟩ := hAt.slot 27 (by kernel_rfl) (by rfl)
                        go_simp
                        exact hK _ w5 (hM.simple hSV (by decide) (by decide) (Below.refl _ _) rfl)
                      | 1, _ =>
                        injection ho with ho
                        subst ho
                        have l0 := hdep ⟨0, .data⟩ (by simp) rfl
                        obtain ⟨x0, x0'⟩ := hAt.dep 0 (d := 351) (by omega) l0 (by rfl) (hM.fact 0 (by omega) (by decide) (by decide) l0)
                        obtain ⟨q0, q1, q2⟩ := HCELL.out w5 hM.gr
                        go_simp
                        exact hK _ w5 (hM.simple hSV (by decide) (by decide) (Below.refl _ _) rfl)
                      | 2, _ =>
                        injection ho with ho
                        subst ho
                        obtain ⟨e, e'⟩ := hAt.slot 30 (by kernel_rfl) (by rfl)
                        go_simp
                        exact hK _ w5 (hM.simple hSV (by decide) (by decide) (Below.refl _ _) rfl)
                      | 3, _ =>
                        injection ho with ho
                        subst ho
                        have l2 := hdep ⟨2, .data⟩ (by simp) rfl
                        obtain ⟨x2, x2'⟩ := hAt.dep 2 (d := 353) (by omega) l2 (by rfl) (hM.fact 2 (by omega) (by decide) (by decide) l2)
                        go_simp
                        exact hK _ w5 (hM.simple hSV (by decide) (by decide) (Below.refl _ _) rfl)
                      | 4, _ =>
                        injection ho with ho
                        subst ho
                        have l3 := hdep ⟨3, .data⟩ (by simp) rfl
                        obtain ⟨x3, x3'⟩ := hAt.dep 3 (d := 354) (by omega) l3 (by rfl) (hM.fact 3 (by omega) (by decide) (by decide) l3)
                        go_simp
                        exact hK _ _ (hM.simple hSV (by decide) (by decide) (below_new _ _) ⟨w5.heap.size, rfl, hM.gr.size, by simp, news_new w5 [.int .i64 i, .int .i64 1] _ rfl⟩)
                      | 5, _ =>
                        injection ho with ho
                        subst ho
                        have l1 := hdep ⟨1, .data⟩ (by simp) rfl
                        obtain ⟨x1, x1'⟩ := hAt.dep 1 (d := 352) (by omega) l1 (by rfl) (hM.fact 1 (by omega) (by decide) (by decide) l1)
                        have l4 := hdep ⟨4, .data⟩ (by simp) rfl
                        obtain ⟨kx, f4, gx, zx, hx⟩ := hM.fact 4 (by omega) (by decide) (by decide) l4
                        obtain ⟨x4, x4'⟩ := hAt.dep 4 (d := 355) (by omega) l4 (by rfl) f4
                        have hb5 := hM.gr.size
                        refine wp_append_lies w5 _ _ _ rfl w9.heap.size 39 j0 _ 2 16 Tryz.underlying29 jh0 jh1 jh2 jh3 rfl (by decide) _ i _ x1' (hM.v0 hl) ⟨kx, 0, none⟩ 1 1 [.int .i64 i, .int .i64 1] x4' rfl hx (by simp [Value.oneCell']) (by omega) (by simp only [maxLen]; omega) (by omega) (by omega) _ rfl ?_
                        intro g cap w8 hown1 hgrow1 hat hlt8
                        exact hK _ _ (hM.app5 hSV hapV hl hown1 hgrow1 hat)
                      | 6, _ =>
                        injection ho with ho
                        subst ho
                        obtain ⟨e, e'⟩ := hAt.slot 27 (by kernel_rfl) (by rfl)
                        go_simp
                        exact hK _ w5 (hM.simple hSV (by decide) (by decide) (Below.refl _ _) rfl)
                      | 7, _ =>
                        injection ho with ho
                        subst ho
                        have l6 := hdep ⟨6, .data⟩ (by simp) rfl
                        obtain ⟨x6, x6'⟩ := hAt.dep 6 (d := 357) (by omega) l6 (by rfl) (hM.fact 6 (by omega) (by decide) (by decide) l6)
                        obtain ⟨q0, q1, q2⟩ := HCELL.out w5 hM.gr
                        go_simp
                        exact hK _ w5 (hM.simple hSV (by decide) (by decide) (Below.refl _ _) rfl)
                      | 8, _ =>
                        injection ho with ho
                        subst ho
                        obtain ⟨e, e'⟩ := hAt.slot 30 (by kernel_rfl) (by rfl)
                        go_simp
                        exact hK _ w5 (hM.simple hSV (by decide) (by decide) (Below.refl _ _) rfl)
                      | 9, _ =>
                        injection ho with ho
                        subst ho
                        have l8 := hdep ⟨8, .data⟩ (by simp) rfl
                        obtain ⟨x8, x8'⟩ := hAt.dep 8 (d := 359) (by omega) l8 (by rfl) (hM.fact 8 (by omega) (by decide) (by decide) l8)
                        have z1 : IntKind.i64.wrap ((i : Int) + 1) = (i : Int) + 1 := IntWalk.i64_in _ (by omega)
                        go_simp
                        exact hK _ w5 (hM.simple hSV (by decide) (by decide) (Below.refl _ _) rfl)
                      | 10, _ =>
                        injection ho with ho
                        subst ho
                        have l9 := hdep ⟨9, .data⟩ (by simp) rfl
                        obtain ⟨x9, x9'⟩ := hAt.dep 9 (d := 360) (by omega) l9 (by rfl) (hM.fact 9 (by omega) (by decide) (by decide) l9)
                        go_simp
                        exact hK _ w5 (hM.simple hSV (by decide) (by decide) (Below.refl _ _) rfl)
                      | 11, _ =>
                        injection ho with ho
                        subst ho
                        have l10 := hdep ⟨10, .data⟩ (by simp) rfl
                        obtain ⟨x10, x10'⟩ := hAt.dep 10 (d := 361) (by omega) l10 (by rfl) (hM.fact 10 (by omega) (by decide) (by decide) l10)
                        go_simp
                        exact hK _ _ (hM.simple hSV (by decide) (by decide) (below_new _ _) ⟨w5.heap.size, rfl, hM.gr.size, by simp, news_new w5 [.int .i64 (i + 1), .int .i64 1] _ rfl⟩)
                      | 12, _ =>
                        injection ho with ho
                        subst ho
                        have l7 := hdep ⟨7, .data⟩ (by simp) rfl
                        obtain ⟨x7, x7'⟩ := hAt.dep 7 (d := 358) (by omega) l7 (by rfl) (hM.fact 7 (by omega) (by decide) (by decide) l7)
                        have l11 := hdep ⟨11, .data⟩ (by simp) rfl
                        obtain ⟨kx, f11, gx, zx, hx⟩ := hM.fact 11 (by omega) (by decide) (by decide) l11
                        obtain ⟨x11, x11'⟩ := hAt.dep 11 (d := 362) (by omega) l11 (by rfl) f11
                        have l5 := hdep ⟨5, .chain⟩ (by simp) rfl
                        have hb5 := hM.gr.size
                        refine wp_append_lies w5 _ _ _ rfl w9.heap.size 39 j0 _ 2 16 Tryz.underlying29 jh0 jh1 jh2 jh3 rfl (by decide) _ i _ x7' (hM.u0 hl) ⟨kx, 0, none⟩ 1 1 [.int .i64 (i + 1), .int .i64 1] x11' rfl hx (by simp [Value.oneCell']) (by omega) (by simp only [maxLen]; omega) (by omega) (by omega) _ rfl ?_
                        intro g cap w8 hown1 hgrow1 hat hlt8
                        exact hK _ _ (hM.app12 hSU hapU l5 hl hown1 hgrow1 hat)
                      | 13, _ =>
                        injection ho with ho
                        subst ho
                        obtain ⟨e, e'⟩ := hAt.slot 27 (by kernel_rfl) (by rfl)
                        go_simp
                        exact hK _ w5 (hM.simple hSV (by decide) (by decide) (Below.refl _ _) rfl)
                      | jq + 14, hq => exact absurd hq (by omega)
                    · intro vals w5 hM
                      obtain ⟨g5, c5, f5, o5, _⟩ := hM.v1 (by rfl)
                      obtain ⟨_, g12, c12, f12, o12, hne⟩ := hM.u1 (by rfl)
                      have f13 : vals 13 = .pointer (some ⟨gA, 0, none⟩) := hM.fact 13 (by omega) (by decide) (by decide) (by rfl)
                      have MM := HAd.out.mid (cs1 := chaS (i + 1)) (ps1 := payS (i + 1)) hM.gr (by rw [chaS_succ]; exact o5) (by rw [payS_succ]; exact o12) (hne g5 c5 f5)
                      obtain ⟨y0, m0⟩ := MM.c0
                      obtain ⟨y1, m1⟩ := MM.c1
                      have mf0 := MM.f 0
                      have mf1 := MM.f 1
                      have MST := Lib.hid MM.st
                      clear MM hM o5 o12 hne
                      simp only [putAll, List.range, List.range.loop, List.foldl_cons, List.foldl_nil, f5, f12, f13]
                      clear f5 f12 f13
                      change wpAny _ _ _ _ _ _ (Act.put (Act.put (Act.put (Act.put (Act.put (Act.put (Act.put (Act.put (Act.put (Act.put (Act.put (Act.put (Act.put (Act.put _ (some 351) _) (some 352) _) (some 353) _) (some 354) _) (some 355) _) (some 356) _) (some 357) _) (some 358) _) (some 359) _) (some 360) _) (some 361) _) (some 362) _) (some 363) _) (some 364) _) _
                      simp only [Act.put, List.setIfInBounds_toArray, List.set_cons_zero, List.set_cons_succ]
                      refine tail_step 14 _ (by kernel_rfl) rfl rfl (fun K' hK => ?_)
                      go_simp
                      refine hK _ _ ?_
                      clear hK K'
                      refine tail_step 15 _ (by kernel_rfl) rfl rfl (fun K' hK => ?_)
                      go_simp
                      refine hK _ _ ?_
                      clear hK K'
                      refine tail_step 16 _ (by kernel_rfl) rfl rfl (fun K' hK => ?_)
                      go_simp
                      refine hK _ _ ?_
                      clear hK K'
                      refine wpAny_done (by kernel_rfl) ?_ _
                      go_wp2_with fail
                      go_roundw
                      case rel => exact ⟨i + 1, _, _, by go_num, by omega, MST.out⟩
                      case measure => simp [intOf]; omega
                  · obtain rfl : M10 = i := by omega
                    obtain ⟨At, ct, Ab, cb, Ac_, cc, Ap, cp, et, eb, hL⟩ := last_of lB lA nAB HGB.out HGA.out HB7.out HT.out HB.out HCb.out HA.out
                    injection et with e1 _ e3
                    subst e1 e3
                    obtain ⟨wd, hwd⟩ : ∃ x, x = wr := ⟨_, rfl⟩
                    subst hwd
                    have HLd := Lib.hid hL
                    have HK1 := Lib.hid (tarS_ck hlt)
                    have HK2 := Lib.hid (houS_ck hlt)
                    have HK3 := Lib.hid (accS_ck hlt)
                    rw [← HM6.out] at HK1
                    rw [← HM8.out] at HK2
                    rw [← HM10.out] at HK3
                    clear hL eb HT HB HCb HA HA0 HB7 HCB HFB HCA HFA lB lA l8 l9 hil hi
                    have lB := HLd.out.lB
                    have lA := HLd.out.lA
                    have b0 := HLd.out.b0
                    have b1 := HLd.out.b1
                    obtain ⟨a0, a1, a2, a3⟩ := HLd.out.k
                    go_upto_region 75 with fail
                    go_cut [396] from 367 to 395 (fun sv wx => sv = .bool false ∧ Hid (Below wd.heap.size wd wx))
                    case first =>
                      refine sm_p75 HLd hnz hn0 hM6b hM8b hM10b HM8 ?_
                      intro _ _ _ _ _ _ _ _ _ _ _ _ _ _ _ _ _ _ _ _ _ _ _ _ _ _ _ _ _ wx hb
                      go_wp2_with fail
                      go_meet
                      case rel => exact ⟨rfl, hb⟩
                    case rest =>
                      obtain ⟨rfl, hbd⟩ := hcut
                      have HLe := Lib.hid (HLd.out.next hbd.out)
                      clear HLd hbd lB lA b0 b1 a0 a1 a2 a3
                      obtain ⟨we, hwe⟩ : ∃ x, x = wc := ⟨_, rfl⟩
                      subst hwe
                      have b0 := HLe.out.b0
                      have b1 := HLe.out.b1
                      have lB := HLe.out.lB
                      have lA := HLe.out.lA
                      obtain ⟨a0, a1, a2, a3⟩ := HLe.out.k
                      go_upto_region 77 with fail
                      go_cut [426] from 397 to 425 (fun sv wx => sv = .bool false ∧ Hid (Below wC.heap.size wC wx))
                      case first =>
                        have hcase : n = 0 ∨ (1 ≤ n ∧ n < 5) ∨ (5 ≤ n ∧ n < 7) ∨ (7 ≤ n ∧ n < 9) ∨ 9 ≤ n := by omega
                        have HCK : Hid (∀ p1 p2 p3 p4 : Bool, decide ((0 : Int) < n) = p1 → decide ((n : Int) < 5) = p2 → decide ((n : Int) < 7) = p3 → decide ((n : Int) < 9) = p4 → (ckTariff (tarS M6) == 0) = (p1 && p2) ∧ (ckBill n (houS M8) == 0) = (p1 && p3) ∧ (ckAcc (chaS M10) (payS M10) 0 0 == 0) = p4) := by
                          show ∀ p1 p2 p3 p4 : Bool, _
                          intro p1 p2 p3 p4 e1 e2 e3 e4
                          exact ⟨by rw [HK1.out, e1, e2], by rw [HK2.out, e1, e3], by rw [HK3.out, e4]⟩
                        clear HK1 HK2 HK3
                        rcases hcase with hc | hc | hc | hc | hc
                        · refine sm_p77_0 HLe hnz hn0 hM6b hM8b hM10b HCK hc ?_
                          clear hc
                          intro _ _ _ _ _ _ _ _ _ _ _ _ _ _ _ _ _ _ _ _ _ _ _ _ _ _ _ _ _ wx hb
                          go_wp2_with fail
                          go_meet
                          case rel => exact ⟨rfl, hb.out⟩
                        · refine sm_p77_1 HLe hnz hn0 hM6b hM8b hM10b HCK hc ?_
                          clear hc
                          intro _ _ _ _ _ _ _ _ _ _ _ _ _ _ _ _ _ _ _ _ _ _ _ _ _ _ _ _ _ wx hb
                          go_wp2_with fail
                          go_meet
                          case rel => exact ⟨rfl, hb.out⟩
                        · refine sm_p77_2 HLe hnz hn0 hM6b hM8b hM10b HCK hc ?_
                          clear hc
                          intro _ _ _ _ _ _ _ _ _ _ _ _ _ _ _ _ _ _ _ _ _ _ _ _ _ _ _ _ _ wx hb
                          go_wp2_with fail
                          go_meet
                          case rel => exact ⟨rfl, hb.out⟩
                        · refine sm_p77_3 HLe hnz hn0 hM6b hM8b hM10b HCK hc ?_
                          clear hc
                          intro _ _ _ _ _ _ _ _ _ _ _ _ _ _ _ _ _ _ _ _ _ _ _ _ _ _ _ _ _ wx hb
                          go_wp2_with fail
                          go_meet
                          case rel => exact ⟨rfl, hb.out⟩
                        · refine sm_p77_4 HLe hnz hn0 hM6b hM8b hM10b HCK hc ?_
                          clear hc
                          intro _ _ _ _ _ _ _ _ _ _ _ _ _ _ _ _ _ _ _ _ _ _ _ _ _ _ _ _ _ wx hb
                          go_wp2_with fail
                          go_meet
                          case rel => exact ⟨rfl, hb.out⟩
                      case rest =>
                        obtain ⟨rfl, hbe⟩ := hcut
                        clear b0 b1 lB lA a0 a1 a2 a3
                        go_wp2_with fail
                        exact HK.out _ _ _ _ _ _ _ _ _ _ _ _ _ _ _ _ _ _ _ _ _ _ _ _ _ _ _ _ _ _ _ _ _ _ _ _ _ _ _ _ _ _ _ _ _ _ _ _ _ _ _ _ _ _ _ _ _ _ _ _ _ _ _ _ _ _ _ _ _ _ _ _ _ _ _ _ _ _ _ _ _ _ _ _ _ _ _ _ _ _ _ _ _ _ _ _ _ _ _ _ _ _ _ _ _ _ _ _ _ _ _ _ _ _ _ _ _ _ _ _ _ hbe
end Go.Proofs.YtfojjecnmfkcfaaGreat
