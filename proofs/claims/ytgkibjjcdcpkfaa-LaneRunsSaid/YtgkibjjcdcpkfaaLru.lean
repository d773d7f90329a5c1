/-
  LaneRuns: the law's walk: whatever comes in, it returns true. A contract, no statement.
-/
import Derived.Test.YtgkibjjcdcpkfaaLsm
namespace Go.Proofs.Ytgkibjjcdcpkfaa
open Go Go.RowKit

set_option maxRecDepth 100000 in
set_option maxHeartbeats 64000000 in
theorem runs_walk (W : World) (a : Option Addr) (cap : Nat) (ds : List DdV) (hn : ds.length ≤ maxLen) (_hdl : ∀ x ∈ ds, x.sd.1.dirty.length ≤ maxLen) (hds : DdsIn W (old W * 1) a ds) :
    Calls Try.prog 10 #[.slice a ds.length cap] W fun e W' => e = .returned (.bool true) ∧ Below W.heap.size W W' := by
  have hfit := lawFit_any W W _ (At.startR W)
  have hlt := lawLight_any W a cap ds hn hds
  obtain ⟨n, hnn⟩ : ∃ n, ds.length = n := ⟨_, rfl⟩
  rw [hnn] at hn hlt ⊢
  unfold maxLen at hn
  have Hn := hide hnn
  have Hds := hide hds
  have Hlt := hide hlt
  obtain ⟨i2, z2, hi2, hy0, hy1, hy2, hy3⟩ := info_wr Try.infoRec
  have Hi2 := hide hi2
  clear hnn hds hi2 _hdl hlt
  go_enter Try.func10, Try.ntmps10
  go_wp2_with fail
  refine hfit.mono ?_
  rintro e w1 ⟨rfl, h1⟩
  clear hfit
  have hlt := Hlt.out w1 h1
  obtain ⟨lb, hlb⟩ : ∃ lb, lightB ds = lb := ⟨_, rfl⟩
  rw [hlb] at hlt
  clear h1
  go_wp2_with fail
  refine hlt.mono ?_
  rintro e w1 ⟨rfl, h1⟩
  clear hlt
  cases lb with
  | false =>
    have hbel := h1.below
    go_wp2_with fail
    go_ret
    exact ⟨rfl, hbel⟩
  | true =>
  unfold lightB at hlb
  obtain ⟨hn60, hd100⟩ := of_decide_eq_true hlb
  rw [Hn.out] at hn60
  have Hd := hide hd100
  have hnew := diskNew_any W w1 _ 1 538 (by decide) (by decide) (by decide) (by decide) h1
  change Calls _ _ #[.int .i64 1, .int .i64 538] _ _ at hnew
  clear h1 hd100 hlb
  go_wp2_with fail
  refine hnew.mono ?_
  rintro e w2 ⟨D, rfl, h2⟩
  clear hnew
  have hN := Dk.new_at 1 538 0 (by decide)
  have hln := laneNew_st W w2 _ D 0 (Dk.new 1 538) (Dk.new_wf (by decide) (by decide) (by decide)) (by decide) (by decide) hN.1 hN.2 (by decide) h2
  change Calls _ _ #[_, .int .i64 0] _ _ at hln
  have hn2 : (Dk.new 1 538).writes = 0 := rfl
  rw [hn2] at hln
  generalize Dk.new 1 538 = m0 at *
  clear h2 hn2 hN
  go_wp2_with fail
  refine hln.mono ?_
  rintro e w3 ⟨P, L, m1, rfl, hst, hg, hb, hsame, hun, hwr, h3⟩
  clear hln
  have Hst := hide hst
  have hwr' : m1.writes ≤ 520 := by omega
  obtain ⟨N0, hN0⟩ : ∃ N0, w3.heap.size = N0 := ⟨_, rfl⟩
  have h4 : At W (lan P D 0 L * (dsk D m1 * (cel N0 rvCheck.cs.toArray 44 * (old W * 1)))) (w3.alloc (.cells #[.int .i64 1, .int .i64 0, .int .i64 0, .int .i64 0, .string ⟨#[]⟩, .string ⟨#[]⟩, .string ⟨#[]⟩, .slice none 0 0] 44)) := (h3.alloc' hN0 (.cells rvCheck.cs.toArray 44)).cast (by unfold cel; ac_rfl)
  clear hst hsame hun hb hwr h3
  go_wp2_with fail
  try rw [hN0]
  generalize hW4 : w3.alloc _ = w4 at h4 ⊢
  clear hN0 hW4
  go_wp2_with fail
  go_loopw [4, 6, 7, 8, 9, 10, 41] (fun u4 u6 u7 u8 u9 u10 u41 wr => ∃ (i P : Nat) (L : Ln) (m : Dk) (all : List RecV) (a6 : Option Addr) (c6 k : Nat) (F : HP), i ≤ n ∧ u41 = .int .i64 i ∧ u4 = .pointer (some ⟨P, 0, none⟩) ∧ u6 = .slice a6 all.length c6 ∧ u7 = .int .i64 k ∧ u8 = u8 ∧ u9 = .bool false ∧ u10 = .bool false ∧ Hid (AllIn W F a6 c6 all) ∧ Hid (∀ w', At W F w' → At W (old W * 1) w') ∧
    Hid (LSt m 0 L (all.map (·.1)) k) ∧ Hid (L.gen ≤ i + 1) ∧ m.writes ≤ 520 + 1800 * i ∧ At W (lan P D 0 L * (dsk D m * F)) wr) (fun _ _ _ _ _ _ u _ => n - (intOf u).toNat)
  case atStart =>
    exact ⟨0, P, L, m1, [rvCheck], some ⟨N0, 0, none⟩, 1, 1, _, Nat.zero_le _, rfl, rfl, rfl, rfl, rfl, rfl, rfl, hide ⟨recs_one rvCheck _ (rvCheck_dir _ _) (fun d hd => by simp [rvCheck, recCheck] at hd), fun y h => by rw [List.mem_singleton.1 h]; exact recCheck_good, Nat.le_refl _, .inr ⟨N0, 0, rfl⟩⟩, hide fun w' h' => h'.r, Hst, hide (by omega), by omega, h4⟩
  case round =>
    obtain ⟨i, P2, L2, m, all, a6, c6, k, F, hin, rfl, rfl, rfl, rfl, _, rfl, rfl, Hall, HF, Hst2, Hg2, hwr2, h5⟩ := hrel
    clear h4 Hst hg hwr'
    by_cases hil : i < n
    · have hilz : (i : Int) < (n : Int) := by omega
      obtain ⟨d, hd⟩ : ∃ d, ds[i]'(by have := Hn.out; omega) = d := ⟨_, rfl⟩
      have hdm : d ∈ ds := by rw [← hd]; exact List.getElem_mem _
      have hdIn := Hds.out.2 d hdm
      have hd1 := Hd.out d hdm
      obtain ⟨g, o, rfl, hcs⟩ := Hds.out.at (HF.out _ h5.r.r) (i := i) (by have := Hn.out; omega)
      rw [hd] at hcs
      obtain ⟨C, hC⟩ : ∃ C, wr.heap.size = C := ⟨_, rfl⟩
      have h6 := h5.alloc' hC (.cells (List.toArray [.int .i64 0, .int .i64 0, .int .i64 0, .int .i64 0, .int .i64 0, .int .i64 0, .int .u8 0, .int .u8 0, .int .u8 0, .slice none 0 0, .int .u64 0]) 72)
      have HdIn := hide hdIn
      have Hd1 := hide hd1
      clear hd hdm hdIn hd1 h5
      go_upto_region 12 with fail
      refine wp_region_lit ?_
      refine wpList_value rfl (v := .pointer (some ⟨g, o + i * 11, none⟩)) (by go_simp) ?_
      refine wpList_load_agg rfl (.tmp 43) 72 rfl _ Try.underlying72 rfl (ys := d.cs) (by rw [DdV.cs_len]; kernel_rfl) (g := g) (off := o + i * 11) (by go_simp) hcs ?_
      refine wpList_alloc_at rfl _ rfl (Try.zeroDeed wr) ?_
      try rw [hC]
      refine wpList_store_at rfl (.tmp 12) (.tmp 44) _ rfl (g := C) (c := List.toArray [.int .i64 0, .int .i64 0, .int .i64 0, .int .i64 0, .int .i64 0, .int .i64 0, .int .u8 0, .int .u8 0, .int .u8 0, .slice none 0 0, .int .u64 0]) (ys := d.cs) (by go_simp) (by go_simp) (by rw [DdV.cs_len]; kernel_rfl) rfl d.one h6 ?_
      intro w5 h7
      have h8 := h7.cast (show _ = lan P2 D 0 L2 * (dsk D m * (cel C d.cs.toArray 72 * F)) by ac_rfl)
      have d0 : w5.cell? ⟨C, 0, none⟩ = some (.int .i64 d.kind) := At.cell h7 rfl
      clear h6 h7 hcs hC
      obtain ⟨kk, hkk, hkk4⟩ := mod5 d.kind
      have hkw1 := IntWalk.i64_in (d.kind.tmod 5) (by have := tmod_in d.kind 5 (by decide); change -5 < d.kind.tmod 5 ∧ d.kind.tmod 5 < 5 at this; omega)
      have hkw2 := IntWalk.i64_in (d.kind.tmod 5 + 5) (by have := tmod_in d.kind 5 (by decide); change -5 < d.kind.tmod 5 ∧ d.kind.tmod 5 < 5 at this; omega)
      have hkw3 := IntWalk.i64_in (kk : Int) (by omega)
      go_upto_region 13 with fail
      go_upto_block 2 with fail
      have hlo := Hst2.out.b
      have hll := Hst2.out.len
      have Hlo := hide (And.intro hlo hll)
      clear hlo hll
      go_cut [4, 6, 7, 8, 9, 10] (fun u4 u6 u7 u8 u9 u10 wc => LrPost W D i C d u4 u6 u7 u8 u9 u10 wc)
      case first =>
        rcases show kk = 0 ∨ kk = 1 ∨ kk = 2 ∨ kk = 3 ∨ kk = 4 by omega with rfl | rfl | rfl | rfl | rfl
        · exact lr_arm0 W n i hn60 i2 z2 hy0 hy1 hy2 hy3 Hi2 hil D P N0 cap g o P2 L2 m all a6 c6 k F u2 u8 u13 u14 u15 u16 u17 u18 u19 u20 u21 u22 u23 u24 u25 u50 u51 u52 u53 u54 u55 u56 u57 u58 u59 u60 u61 u62 u63 u64 u65 u66 u67 u68 u69 u70 u71 u72 u73 u74 u75 u76 u77 u78 u79 u80 u81 u82 u83 u84 u85 u86 u87 u88 u89 u90 u91 u92 u93 u94 u95 u96 u97 u98 u99 u100 u101 u102 u103 u104 u105 u106 u107 u108 u109 u110 u111 u112 u113 u114 u115 u116 u117 u118 u119 u120 u121 u122 u123 u124 u125 u126 u127 u128 u129 u130 u131 u132 u133 u134 u135 u136 u137 u138 u139 u140 u141 u142 u143 u144 u145 u146 u147 u148 u149 u150 u151 u152 u153 u154 u155 u156 u157 u158 u159 u160 u161 u162 u163 u164 u165 u166 u167 u168 u169 u170 u171 u172 u173 u174 u175 u176 u177 u178 u179 u180 u181 u182 u183 u184 u185 u186 u187 u188 u189 u190 u191 u192 u193 u194 u195 u196 u197 u198 u199 u200 u201 u202 u203 u204 u205 u206 u207 u208 u209 u210 u211 u212 u213 u214 u215 u216 u217 u218 u219 u220 u221 u222 u223 u224 u225 u226 u227 u228 u229 u230 u231 u232 u233 u234 u235 u236 u237 u238 u239 u240 u241 u242 u243 u244 u245 u246 Hall HF Hst2 Hg2 hwr2 d C HdIn Hd1 w5 h8 d0 hkk hkw1 hkw2 hkw3 Hlo _ _ _ (by assumption) (by assumption) _ (by kernel_rfl)
        · exact lr_arm1 W n i hn60 i2 z2 hy0 hy1 hy2 hy3 Hi2 hil D P N0 cap g o P2 L2 m all a6 c6 k F u2 u8 u13 u14 u15 u16 u17 u18 u19 u20 u21 u22 u23 u24 u25 u50 u51 u52 u53 u54 u55 u56 u57 u58 u59 u60 u61 u62 u63 u64 u65 u66 u67 u68 u69 u70 u71 u72 u73 u74 u75 u76 u77 u78 u79 u80 u81 u82 u83 u84 u85 u86 u87 u88 u89 u90 u91 u92 u93 u94 u95 u96 u97 u98 u99 u100 u101 u102 u103 u104 u105 u106 u107 u108 u109 u110 u111 u112 u113 u114 u115 u116 u117 u118 u119 u120 u121 u122 u123 u124 u125 u126 u127 u128 u129 u130 u131 u132 u133 u134 u135 u136 u137 u138 u139 u140 u141 u142 u143 u144 u145 u146 u147 u148 u149 u150 u151 u152 u153 u154 u155 u156 u157 u158 u159 u160 u161 u162 u163 u164 u165 u166 u167 u168 u169 u170 u171 u172 u173 u174 u175 u176 u177 u178 u179 u180 u181 u182 u183 u184 u185 u186 u187 u188 u189 u190 u191 u192 u193 u194 u195 u196 u197 u198 u199 u200 u201 u202 u203 u204 u205 u206 u207 u208 u209 u210 u211 u212 u213 u214 u215 u216 u217 u218 u219 u220 u221 u222 u223 u224 u225 u226 u227 u228 u229 u230 u231 u232 u233 u234 u235 u236 u237 u238 u239 u240 u241 u242 u243 u244 u245 u246 Hall HF Hst2 Hg2 hwr2 d C HdIn Hd1 w5 h8 d0 hkk hkw1 hkw2 hkw3 Hlo _ _ _ (by assumption) (by assumption) _ (by kernel_rfl)
        · exact lr_arm2 W n i hn60 i2 z2 hy0 hy1 hy2 hy3 Hi2 hil D P N0 cap g o P2 L2 m all a6 c6 k F u2 u8 u13 u14 u15 u16 u17 u18 u19 u20 u21 u22 u23 u24 u25 u50 u51 u52 u53 u54 u55 u56 u57 u58 u59 u60 u61 u62 u63 u64 u65 u66 u67 u68 u69 u70 u71 u72 u73 u74 u75 u76 u77 u78 u79 u80 u81 u82 u83 u84 u85 u86 u87 u88 u89 u90 u91 u92 u93 u94 u95 u96 u97 u98 u99 u100 u101 u102 u103 u104 u105 u106 u107 u108 u109 u110 u111 u112 u113 u114 u115 u116 u117 u118 u119 u120 u121 u122 u123 u124 u125 u126 u127 u128 u129 u130 u131 u132 u133 u134 u135 u136 u137 u138 u139 u140 u141 u142 u143 u144 u145 u146 u147 u148 u149 u150 u151 u152 u153 u154 u155 u156 u157 u158 u159 u160 u161 u162 u163 u164 u165 u166 u167 u168 u169 u170 u171 u172 u173 u174 u175 u176 u177 u178 u179 u180 u181 u182 u183 u184 u185 u186 u187 u188 u189 u190 u191 u192 u193 u194 u195 u196 u197 u198 u199 u200 u201 u202 u203 u204 u205 u206 u207 u208 u209 u210 u211 u212 u213 u214 u215 u216 u217 u218 u219 u220 u221 u222 u223 u224 u225 u226 u227 u228 u229 u230 u231 u232 u233 u234 u235 u236 u237 u238 u239 u240 u241 u242 u243 u244 u245 u246 Hall HF Hst2 Hg2 hwr2 d C HdIn Hd1 w5 h8 d0 hkk hkw1 hkw2 hkw3 Hlo _ _ _ (by assumption) (by assumption) _ (by kernel_rfl)
        · exact lr_arm3 W n i hn60 i2 z2 hy0 hy1 hy2 hy3 Hi2 hil D P N0 cap g o P2 L2 m all a6 c6 k F u2 u8 u13 u14 u15 u16 u17 u18 u19 u20 u21 u22 u23 u24 u25 u50 u51 u52 u53 u54 u55 u56 u57 u58 u59 u60 u61 u62 u63 u64 u65 u66 u67 u68 u69 u70 u71 u72 u73 u74 u75 u76 u77 u78 u79 u80 u81 u82 u83 u84 u85 u86 u87 u88 u89 u90 u91 u92 u93 u94 u95 u96 u97 u98 u99 u100 u101 u102 u103 u104 u105 u106 u107 u108 u109 u110 u111 u112 u113 u114 u115 u116 u117 u118 u119 u120 u121 u122 u123 u124 u125 u126 u127 u128 u129 u130 u131 u132 u133 u134 u135 u136 u137 u138 u139 u140 u141 u142 u143 u144 u145 u146 u147 u148 u149 u150 u151 u152 u153 u154 u155 u156 u157 u158 u159 u160 u161 u162 u163 u164 u165 u166 u167 u168 u169 u170 u171 u172 u173 u174 u175 u176 u177 u178 u179 u180 u181 u182 u183 u184 u185 u186 u187 u188 u189 u190 u191 u192 u193 u194 u195 u196 u197 u198 u199 u200 u201 u202 u203 u204 u205 u206 u207 u208 u209 u210 u211 u212 u213 u214 u215 u216 u217 u218 u219 u220 u221 u222 u223 u224 u225 u226 u227 u228 u229 u230 u231 u232 u233 u234 u235 u236 u237 u238 u239 u240 u241 u242 u243 u244 u245 u246 Hall HF Hst2 Hg2 hwr2 d C HdIn Hd1 w5 h8 d0 hkk hkw1 hkw2 hkw3 Hlo _ _ _ (by assumption) (by assumption) _ (by kernel_rfl)
        · exact lr_arm4 W n i hn60 i2 z2 hy0 hy1 hy2 hy3 Hi2 hil D P N0 cap g o P2 L2 m all a6 c6 k F u2 u8 u13 u14 u15 u16 u17 u18 u19 u20 u21 u22 u23 u24 u25 u50 u51 u52 u53 u54 u55 u56 u57 u58 u59 u60 u61 u62 u63 u64 u65 u66 u67 u68 u69 u70 u71 u72 u73 u74 u75 u76 u77 u78 u79 u80 u81 u82 u83 u84 u85 u86 u87 u88 u89 u90 u91 u92 u93 u94 u95 u96 u97 u98 u99 u100 u101 u102 u103 u104 u105 u106 u107 u108 u109 u110 u111 u112 u113 u114 u115 u116 u117 u118 u119 u120 u121 u122 u123 u124 u125 u126 u127 u128 u129 u130 u131 u132 u133 u134 u135 u136 u137 u138 u139 u140 u141 u142 u143 u144 u145 u146 u147 u148 u149 u150 u151 u152 u153 u154 u155 u156 u157 u158 u159 u160 u161 u162 u163 u164 u165 u166 u167 u168 u169 u170 u171 u172 u173 u174 u175 u176 u177 u178 u179 u180 u181 u182 u183 u184 u185 u186 u187 u188 u189 u190 u191 u192 u193 u194 u195 u196 u197 u198 u199 u200 u201 u202 u203 u204 u205 u206 u207 u208 u209 u210 u211 u212 u213 u214 u215 u216 u217 u218 u219 u220 u221 u222 u223 u224 u225 u226 u227 u228 u229 u230 u231 u232 u233 u234 u235 u236 u237 u238 u239 u240 u241 u242 u243 u244 u245 u246 Hall HF Hst2 Hg2 hwr2 d C HdIn Hd1 w5 h8 d0 hkk hkw1 hkw2 hkw3 Hlo _ _ _ (by assumption) (by assumption) _ (by kernel_rfl)
      case rest =>
        obtain ⟨P3, L3, m3, all3, a63, c63, k3, oth, a8, c8, sure, dn, an, F3, rfl, rfl, rfl, hu8, rfl, rfl, Hall3, Hoth, HF3, Hlb, Hup, Hdn, hwr3, h9⟩ := hcut
        skip
        have hT := Hlb.out.1
        obtain ⟨T, hTe⟩ : ∃ T, (encR (all3.map (·.1))).length = T := ⟨_, rfl⟩
        have hTl : T ≤ 14336 := by rw [← hTe]; exact Hlb.out.2.2
        have hal := encR_len_le Hlb.out.2.2
        rw [List.length_map] at hal
        have hlen := laneLen_any W wc _ P3 D 0 L3 h9
        have hroom := laneRoom_any W wc _ P3 D 0 L3 h9
        rw [hT, hTe] at hlen hroom
        have hR := ((Hall3.out.1.mono (B := cel C d.cs.toArray 72)).mono (B := dsk D m3)).mono (B := lan P3 D 0 L3)
        have hsz := fun w' (h' : At W (lan P3 D 0 L3 * (dsk D m3 * (cel C d.cs.toArray 72 * F3))) w') => lawSize_any W w' _ a63 c63 all3 (by omega) Hall3.out.2.1 hR h'
        rw [encs_encR, hTe] at hsz
        have hTz : (14336 : Int) - (T : Int) = ((14336 - T : Nat) : Int) := by omega
        obtain ⟨rm, hrm⟩ : ∃ rm, 14336 - T = rm := ⟨_, rfl⟩
        rw [hrm] at hTz hroom
        have hwrm := IntWalk.i64_in (rm : Int) (by omega)
        have hs1 := hsz wc h9
        have Hsz := hide hsz
        have HTe := hide hTe
        clear hsz hR hT hTe hrm h8 d0
        go_wp2_with fail
        refine hlen.mono ?_
        rintro e w6 ⟨rfl, rfl⟩
        clear hlen
        go_wp2_with fail
        refine hs1.mono ?_
        rintro e w6 ⟨rfl, h10⟩
        clear hs1 h9
        have hroom2 := laneRoom_any W w6 _ P3 D 0 L3 h10
        rw [Hlb.out.1, HTe.out] at hroom2
        have hrm2 : 14336 - T = rm := by omega
        rw [hrm2] at hroom2
        have hs2 := Hsz.out w6 h10
        clear hroom hrm2
        go_wp2_with fail
        refine hroom2.mono ?_
        rintro e w7 ⟨rfl, rfl⟩
        clear hroom2
        go_wp2_with fail
        refine hs2.mono ?_
        rintro e w7 ⟨rfl, h11⟩
        clear hs2 h10 Hsz
        cases dn with
        | false =>
          obtain ⟨rfl, hls⟩ := Hup.out rfl
          have Hls := hide hls
          clear hls
          go_wp2_with fail
          go_roundw
          case rel =>
            (repeat apply Exists.intro)
            refine ⟨?_, rfl⟩
            exact ⟨i + 1, P3, L3, m3, all3, a63, c63, k3, F3, by omega, by go_num, rfl, rfl, rfl, rfl, rfl, rfl, Hall3, HF3, Hls, hide (by have := Hlb.out.2.1; omega), by omega, (h11.cast (show _ = lan P3 D 0 L3 * (dsk D m3 * F3) * (cel C d.cs.toArray 72) by ac_rfl)).l⟩
          case measure => simp [intOf] <;> omega
        | true =>
          obtain ⟨htn, hk1, hsu, hkl, hg0, hbk, hg1⟩ := Hdn.out rfl
          have har := diskArm_any W w7 _ D m3 0 0 (by omega) htn.hr h11.pull2
          change Calls _ _ #[_, .int .i64 0, .int .i64 0] _ _ at har
          have htn2 := htn.arm 0 htn.hr true 0 (by omega)
          have hwm : (m3.setReg 0 ⟨(m3.regs[0]'htn.hr).waits, true, 0⟩).writes = m3.writes := rfl
          change Calls _ _ _ _ (fun e w' => e = .returned (.tuple #[]) ∧ At W (dsk D (m3.setReg 0 ⟨(m3.regs[0]'htn.hr).waits, true, 0⟩) * (lan P3 D 0 L3 * (cel C d.cs.toArray 72 * F3))) w') at har
          generalize m3.setReg 0 _ = m4 at har htn2 hwm
          clear h11 htn
          go_wp2_with fail
          refine har.mono ?_
          rintro e w8 ⟨rfl, h12⟩
          clear har
          have d10 : w8.cell? ⟨C, 10, none⟩ = some (.int .u64 d.mask) := At.cell h12.pull3 rfl
          have hcr := diskCrash_any W w8 _ D m4 d.mask HdIn.out.2 (by omega) h12
          obtain ⟨hq, hw0, hun0⟩ := htn2.crash d.mask
          obtain ⟨c1, c2, c3, c4, _⟩ := Dk.crash_at (mask := d.mask) htn2.wf
          have hr8 : 0 < (m4.crash d.mask).regs.length := by rw [c2]; exact htn2.hr
          have hsz8 : 514 ≤ (m4.crash d.mask).size := by rw [c3]; exact htn2.size
          have hwr8 : (m4.crash d.mask).writes ≤ 520 + 1800 * i + 1100 := by omega
          generalize m4.crash d.mask = mc at *
          clear h12 htn2 c2 c3 c4 hwm
          go_wp2_with fail
          refine hcr.mono ?_
          rintro e w9 ⟨rfl, h13⟩
          clear hcr d10
          have hgb := Hlb.out.2.1
          rcases hq with hq | ⟨rfl, hq⟩
          · as_aux_lemma =>
            have hop := laneOpen_part W w9 _ D 0 mc c1 hr8 hsz8 hw0 hun0 hg0 (by omega) hbk Hlb.out.2.2 hsu (fun y hy => by
              rw [List.mem_map] at hy
              obtain ⟨v, hv, rfl⟩ := hy
              exact Hall3.out.2.1 v hv) hq (by omega) h13
            change Calls _ _ #[_, .int .i64 0] _ _ at hop
            clear h13 c1 hr8 hsz8 hw0 hun0 hq
            go_wp2_with fail
            refine hop.mono ?_
            rintro e w10 ⟨P5, ae, ce, es, j, m6, rfl, hj, hel, hes, hs6, hsm6, hun6, hwr6, hmx, h14⟩
            clear hop
            have hkj : k3 ≤ j := hmx k3 (by rw [List.length_map]; exact hkl) hk1
            rw [List.length_map] at hj
            have hjl : j ≤ all3.length := hj
            have hE := (EntsIn.of_row rfl h14.r).mono (B := lan P5 D 0 ⟨L3.gen, L3.bank, encR ((all3.map (·.1)).take j), (encR ((all3.map (·.1)).take j)).length⟩)
            have hR := (((((Hall3.out.1.mono (B := cel C d.cs.toArray 72)).mono (B := lan P3 D 0 L3)).mono (B := dsk D m6)).mono (B := dirts es)).mono (B := row 52 9 (.slice ae es.length ce) es.length (es.flatMap EntV.cs))).mono (B := lan P5 D 0 ⟨L3.gen, L3.bank, encR ((all3.map (·.1)).take j), (encR ((all3.map (·.1)).take j)).length⟩)
            have hst := lawStarts_any W w10 _ ae a63 ce c63 es all3 (by rw [hel]; omega) (by omega) (fun y hy => by
              have h1 : y.2.1 ∈ es.map (·.2.1) := List.mem_map.2 ⟨y, hy, rfl⟩
              rw [places_good hes] at h1
              have := (hs6.good _ h1).dirty
              omega) (hE) (hR) h14
            rw [places_good hes] at hst
            rw [startsB_take _ j (by rw [List.length_map]; exact hj)] at hst
            rw [hel] at hst ⊢
            have hkz : (k3 : Int) ≤ (j : Int) := by omega
            have hw6 : m6.writes ≤ 520 + 1800 * i + 1700 := by omega
            have Hs6 := hide hs6
            have hlen6 : (encR ((all3.take j).map (·.1))).length ≤ 14336 := by
              rw [List.map_take]
              exact hs6.len
            have Hlen6 := hide hlen6
            clear hE hR hes hs6 hsm6 hun6 hwr6 h14 hel hlen6
            go_wp2_with fail
            refine hst.mono ?_
            rintro e w11 ⟨rfl, h15⟩
            clear hst
            have h16 := (h15.cast (show _ = lan P5 D 0 ⟨L3.gen, L3.bank, encR ((all3.map (·.1)).take j), (encR ((all3.map (·.1)).take j)).length⟩ * (dsk D m6 * F3) * (row 52 9 (.slice ae j ce) j (es.flatMap EntV.cs) * (dirts es * (lan P3 D 0 L3 * cel C d.cs.toArray 72))) by ac_rfl)).l.drew
            clear h15
            have htl : (all3.take j).length = j := by rw [List.length_take]; omega
            have Htl := hide htl
            have hcap := Hall3.out.2.2.1
            have hjc : (j : Int) ≤ (c63 : Int) := by omega
            have hj0 : (0 : Int) ≤ (j : Int) := by omega
            have hjcn : j ≤ c63 := by omega
            clear htl
            go_upto_region 60 with fail
            go_cut [4, 6] (fun u4 u6 wd => u4 = .pointer (some ⟨P5, 0, none⟩) ∧ u6 = .slice a63 j j ∧ At W (lan P5 D 0 ⟨L3.gen, L3.bank, encR ((all3.map (·.1)).take j), (encR ((all3.map (·.1)).take j)).length⟩ * (dsk D m6 * F3)) wd)
            case first =>
              as_aux_lemma =>
                rcases Hall3.out.2.2.2 with ⟨rfl, hnil, rfl⟩ | ⟨g6, o6, rfl⟩
                · obtain rfl : j = 0 := by rw [hnil] at hjl; simpa using hjl
                  refine wp_region_line [0, 1, 2, 3, 4, 5, 6, 7, 8] rfl (by kernel_rfl) ?_
                  simp only [picks_cons, picks_nil, getD_zero, getD_succ]
                  go_wp2_with fail
                  refine ⟨by kernel_rfl, ?_⟩
                  go_wp2_with fail
                  go_meet
                  exact ⟨rfl, rfl, h16⟩
                · refine wp_region_line [0, 1, 2, 3, 4, 5, 6, 7, 8] rfl (by kernel_rfl) ?_
                  simp only [picks_cons, picks_nil, getD_zero, getD_succ]
                  go_wp2_with fail
                  refine ⟨by kernel_rfl, ?_⟩
                  go_wp2_with fail
                  go_meet
                  exact ⟨rfl, rfl, h16⟩
            case rest =>
              as_aux_lemma =>
                obtain ⟨rfl, rfl, hZ⟩ := hcut
                go_wp2_with fail
                go_roundw
                case rel =>
                  (repeat apply Exists.intro)
                  refine ⟨?_, rfl⟩
                  exact ⟨i + 1, P5, _, m6, all3.take j, a63, j, j, F3, by omega, by go_num, rfl, by rw [Htl.out], rfl, rfl, rfl, rfl, hide (Hall3.out.cut hjl), HF3, hide (by rw [List.map_take]; exact Hs6.out), hide (by show L3.gen ≤ i + 1 + 1; omega), by omega, hZ⟩
                case measure => simp [intOf] <;> omega
          · skip
            obtain ⟨hot, hoe⟩ := Hoth.out rfl
            obtain ⟨n8, hn8⟩ : ∃ n8, oth.length = n8 := ⟨_, rfl⟩
            have hu := hu8 rfl
            rw [hn8] at hu
            subst hu
            clear hu8
            have hol := encR_len_le hoe
            rw [List.length_map, hn8] at hol
            have hop := laneOpen_rest W w9 _ D 0 mc c1 hr8 hsz8 hw0 hun0 (Nat.succ_pos _) (by omega) (by omega) hoe (fun y hy => by
              rw [List.mem_map] at hy
              obtain ⟨v, hv, rfl⟩ := hy
              exact hot.2.1 v hv) hq (by omega) h13
            change Calls _ _ #[_, .int .i64 0] _ _ at hop
            have Hot := hide hot
            have Hoe := hide hoe
            have Hn8 := hide hn8
            clear h13 c1 hr8 hsz8 hw0 hun0 hq hot hoe hn8
            go_wp2_with fail
            refine hop.mono ?_
            rintro e w10 ⟨P5, ae, ce, es, m6, rfl, hel, hes, hs6, hsm6, hun6, hwr6, h14⟩
            clear hop
            rw [List.length_map, Hn8.out] at hel
            rw [List.length_map, Hn8.out] at hs6
            have hE := (EntsIn.of_row rfl h14.r).mono (B := lan P5 D 0 ⟨L3.gen + 1, 1 - L3.bank, encR (oth.map (·.1)), (encR (oth.map (·.1))).length⟩)
            have hR := (((((Hall3.out.1.mono (B := cel C d.cs.toArray 72)).mono (B := lan P3 D 0 L3)).mono (B := dsk D m6)).mono (B := dirts es)).mono (B := row 52 9 (.slice ae es.length ce) es.length (es.flatMap EntV.cs))).mono (B := lan P5 D 0 ⟨L3.gen + 1, 1 - L3.bank, encR (oth.map (·.1)), (encR (oth.map (·.1))).length⟩)
            have hR2 := (((((Hot.out.1.mono (B := cel C d.cs.toArray 72)).mono (B := lan P3 D 0 L3)).mono (B := dsk D m6)).mono (B := dirts es)).mono (B := row 52 9 (.slice ae es.length ce) es.length (es.flatMap EntV.cs))).mono (B := lan P5 D 0 ⟨L3.gen + 1, 1 - L3.bank, encR (oth.map (·.1)), (encR (oth.map (·.1))).length⟩)
            have hdd : ∀ y ∈ es, y.2.1.dirty.length ≤ 1000000 := fun y hy => by
              have h1 : y.2.1 ∈ es.map (·.2.1) := List.mem_map.2 ⟨y, hy, rfl⟩
              rw [places_good hes] at h1
              have := (hs6.good _ h1).dirty
              omega
            have hst := lawStarts_any W w10 _ ae a63 ce c63 es all3 (by rw [hel]; omega) (by omega) hdd hE hR h14
            have hst2 := fun w' h' => lawStarts_any W w' _ ae a8 ce c8 es oth (by rw [hel]; omega) (by rw [Hn8.out]; omega) hdd hE hR2 h'
            rw [places_good hes] at hst hst2
            rw [startsB_self] at hst2
            rw [hel] at hst hst2 ⊢
            rw [Hn8.out] at hst2
            obtain ⟨b, hb⟩ : ∃ b, startsB (oth.map (·.1)) (all3.map (·.1)) = b := ⟨_, rfl⟩
            rw [hb] at hst
            have Hb := hide hb
            have hw6 : m6.writes ≤ 520 + 1800 * i + 1700 := by omega
            have Hs6 := hide hs6
            have Hst2 := hide hst2
            clear hE hR hR2 hes hs6 hsm6 hun6 hwr6 h14 hel hst2 hdd hb
            go_upto_region 55 with fail
            go_cut [25] (fun u25 wd => u25 = .bool (b && decide (k3 ≤ n8)) ∧ At W (lan P5 D 0 ⟨L3.gen + 1, 1 - L3.bank, encR (oth.map (·.1)), (encR (oth.map (·.1))).length⟩ * (row 52 9 (.slice ae n8 ce) n8 (es.flatMap EntV.cs) * (dirts es * (dsk D m6 * (lan P3 D 0 L3 * (cel C d.cs.toArray 72 * F3)))))) wd)
            case first =>
              as_aux_lemma =>
                cases b with
                | false =>
                  go_wp2_with fail
                  refine hst.mono ?_
                  rintro e w11 ⟨rfl, h15⟩
                  clear hst
                  go_wp2_with fail
                  go_meet
                  exact ⟨rfl, h15⟩
                | true =>
                  by_cases hk8 : k3 ≤ n8
                  · have hk8z : (k3 : Int) ≤ (n8 : Int) := by omega
                    go_wp2_with fail
                    refine hst.mono ?_
                    rintro e w11 ⟨rfl, h15⟩
                    clear hst
                    go_wp2_with fail
                    go_meet
                    exact ⟨by rw [decide_eq_true hk8]; rfl, h15⟩
                  · have hk8z : ¬ (k3 : Int) ≤ (n8 : Int) := by omega
                    go_wp2_with fail
                    refine hst.mono ?_
                    rintro e w11 ⟨rfl, h15⟩
                    clear hst
                    go_wp2_with fail
                    go_meet
                    exact ⟨by rw [decide_eq_false hk8]; rfl, h15⟩
            case rest =>
              obtain ⟨rfl, h15⟩ := hcut
              clear hst
              obtain ⟨wb, hwb⟩ : ∃ wb, (b && decide (k3 ≤ n8)) = wb := ⟨_, rfl⟩
              rw [hwb]
              cases wb with
              | false =>
                clear hwb
                have hst2 := Hst2.out wc h15
                go_wp2_with fail
                try rw [Hn8.out]
                refine hst2.mono ?_
                rintro e w12 ⟨rfl, h16⟩
                clear hst2 h15
                have h17 := (h16.cast (show _ = lan P5 D 0 ⟨L3.gen + 1, 1 - L3.bank, encR (oth.map (·.1)), (encR (oth.map (·.1))).length⟩ * (dsk D m6 * F3) * (row 52 9 (.slice ae n8 ce) n8 (es.flatMap EntV.cs) * (dirts es * (lan P3 D 0 L3 * cel C d.cs.toArray 72))) by ac_rfl)).l
                have h17n := h17.row_nil 44 8
                clear h16
                go_upto_region 59 with fail
                go_wp2_with (at_builtin; go_loud (refine wpList_append_recs rfl (.const (.slice none 0 0)) (.tmp 235) 62 rfl 44 i2 z2 Try.underlying62 Hi2.out hy0 hy2 hy3 hy1 (v := .slice none 0 0) (rs := []) rfl h17n (ad := a8) (c := c8) (ys := oth) (by rw [Hn8.out]; rfl) Hot.out.capn ((Hot.out.1.mono (B := dsk D m6)).mono (B := lan P5 D 0 ⟨L3.gen + 1, 1 - L3.bank, encR (oth.map (·.1)), (encR (oth.map (·.1))).length⟩)) (by rw [Hn8.out]; simp only [List.length_nil]; omega) ?_))
                intro ar cp w13 h18
                try rw [Hn8.out] at h18
                try rw [Hn8.out]
                have h19 := (h18.cast (show _ = lan P5 D 0 ⟨L3.gen + 1, 1 - L3.bank, encR (oth.map (·.1)), (encR (oth.map (·.1))).length⟩ * (dsk D m6 * (row 44 8 (.slice ar n8 cp) n8 (oth.flatMap RecV.cs) * F3)) by ac_rfl)).drew
                have hnew := AllIn.of_row Hn8.out.symm Hot.out.2.1 Hot.out.1.2.1 h19.r.r
                have Hnew := hide hnew
                have hcp := hnew.2.2.1
                rw [Hn8.out] at hcp
                have hcpz : (n8 : Int) ≤ (cp : Int) := by omega
                have hn0 : (0 : Int) ≤ (n8 : Int) := by omega
                have HF4 : Hid (∀ w', At W (row 44 8 (.slice ar n8 cp) n8 (oth.flatMap RecV.cs) * F3) w' → At W (old W * 1) w') := hide (fun w' h' => HF3.out w' h'.r)
                clear h17 h17n h18 hnew
                go_upto_region 60 with fail
                go_cut [4, 6] (fun u4 u6 wd => u4 = .pointer (some ⟨P5, 0, none⟩) ∧ u6 = .slice ar n8 n8 ∧ At W (lan P5 D 0 ⟨L3.gen + 1, 1 - L3.bank, encR (oth.map (·.1)), (encR (oth.map (·.1))).length⟩ * (dsk D m6 * (row 44 8 (.slice ar n8 cp) n8 (oth.flatMap RecV.cs) * F3))) wd)
                case first =>
                  as_aux_lemma =>
                    rcases Hnew.out.2.2.2 with ⟨rfl, hnil, rfl⟩ | ⟨g6, o6, rfl⟩
                    · obtain rfl : n8 = 0 := by rw [← Hn8.out, hnil]; rfl
                      refine wp_region_line [0, 1, 2, 3, 4, 5, 6, 7, 8] rfl (by kernel_rfl) ?_
                      simp only [picks_cons, picks_nil, getD_zero, getD_succ]
                      go_wp2_with fail
                      refine ⟨by kernel_rfl, ?_⟩
                      go_wp2_with fail
                      go_meet
                      exact ⟨rfl, rfl, h19⟩
                    · refine wp_region_line [0, 1, 2, 3, 4, 5, 6, 7, 8] rfl (by kernel_rfl) ?_
                      simp only [picks_cons, picks_nil, getD_zero, getD_succ]
                      go_wp2_with fail
                      refine ⟨by kernel_rfl, ?_⟩
                      go_wp2_with fail
                      go_meet
                      exact ⟨rfl, rfl, h19⟩
                case rest =>
                  as_aux_lemma =>
                    obtain ⟨rfl, rfl, hZ⟩ := hcut
                    go_wp2_with fail
                    go_roundw
                    case rel =>
                      (repeat apply Exists.intro)
                      refine ⟨?_, rfl⟩
                      exact ⟨i + 1, P5, _, m6, oth, ar, n8, n8, _, by omega, by go_num, rfl, by rw [Hn8.out], rfl, rfl, rfl, rfl, hide (Hnew.out.full Hn8.out), HF4, hide Hs6.out, hide (by show L3.gen + 1 ≤ i + 1 + 1; omega), by omega, hZ⟩
                    case measure => simp [intOf] <;> omega
              | true =>
                have hb1 : b = true ∧ k3 ≤ n8 := by simpa using hwb
                clear hwb
                have h16 := (h15.cast (show _ = lan P5 D 0 ⟨L3.gen + 1, 1 - L3.bank, encR (oth.map (·.1)), (encR (oth.map (·.1))).length⟩ * (dsk D m6 * F3) * (row 52 9 (.slice ae n8 ce) n8 (es.flatMap EntV.cs) * (dirts es * (lan P3 D 0 L3 * cel C d.cs.toArray 72))) by ac_rfl)).l.drew
                clear h15
                have hsb := startsB_eq (Hb.out.trans hb1.1)
                rw [List.length_map, List.length_map, Hn8.out] at hsb
                obtain ⟨hjl, hsb⟩ := hsb
                have htl : (all3.take n8).length = n8 := by rw [List.length_take]; omega
                have Htl := hide htl
                have hcap := Hall3.out.2.2.1
                have hjc : (n8 : Int) ≤ (c63 : Int) := by omega
                have hj0 : (0 : Int) ≤ (n8 : Int) := by omega
                have hjcn : n8 ≤ c63 := by omega
                have Hsb := hide hsb
                clear htl hsb
                go_upto_region 60 with fail
                go_cut [4, 6] (fun u4 u6 wd => u4 = .pointer (some ⟨P5, 0, none⟩) ∧ u6 = .slice a63 n8 n8 ∧ At W (lan P5 D 0 ⟨L3.gen + 1, 1 - L3.bank, encR (oth.map (·.1)), (encR (oth.map (·.1))).length⟩ * (dsk D m6 * F3)) wd)
                case first =>
                  as_aux_lemma =>
                    rcases Hall3.out.2.2.2 with ⟨rfl, hnil, rfl⟩ | ⟨g6, o6, rfl⟩
                    · obtain rfl : n8 = 0 := by rw [hnil] at hjl; simpa using hjl
                      refine wp_region_line [0, 1, 2, 3, 4, 5, 6, 7, 8] rfl (by kernel_rfl) ?_
                      simp only [picks_cons, picks_nil, getD_zero, getD_succ]
                      go_wp2_with fail
                      refine ⟨by kernel_rfl, ?_⟩
                      go_wp2_with fail
                      go_meet
                      exact ⟨rfl, rfl, h16⟩
                    · refine wp_region_line [0, 1, 2, 3, 4, 5, 6, 7, 8] rfl (by kernel_rfl) ?_
                      simp only [picks_cons, picks_nil, getD_zero, getD_succ]
                      go_wp2_with fail
                      refine ⟨by kernel_rfl, ?_⟩
                      go_wp2_with fail
                      go_meet
                      exact ⟨rfl, rfl, h16⟩
                case rest =>
                  as_aux_lemma =>
                    obtain ⟨rfl, rfl, hZ⟩ := hcut
                    go_wp2_with fail
                    go_roundw
                    case rel =>
                      (repeat apply Exists.intro)
                      refine ⟨?_, rfl⟩
                      exact ⟨i + 1, P5, _, m6, all3.take n8, a63, n8, n8, F3, by omega, by go_num, rfl, by rw [Htl.out], rfl, rfl, rfl, rfl, hide (Hall3.out.cut hjl), HF3, hide (by rw [List.map_take, Hsb.out]; exact Hs6.out), hide (by show L3.gen + 1 ≤ i + 1 + 1; omega), by omega, hZ⟩
                    case measure => simp [intOf] <;> omega
    · obtain rfl : i = n := by omega
      have hiz : ¬ ((i : Int) < (i : Int)) := by omega
      have hbel := (HF.out _ h5.r.r).below
      go_wp2_with fail
      go_ret
      exact ⟨rfl, hbel⟩
end Go.Proofs.Ytgkibjjcdcpkfaa
