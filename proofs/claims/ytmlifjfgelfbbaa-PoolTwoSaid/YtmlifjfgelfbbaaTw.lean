/-
  PoolTwo's closure: a row is put into a page of a new pool of a region, and that page is flushed: a contract, no statement.
-/
import Derived.Test.YtmlifjfgelfbbaaAe
import Derived.Test.YtmlifjfgelfbbaaGs
import Derived.Test.YtmlifjfgelfbbaaGt
import Derived.Test.YtmlifjfgelfbbaaGl
import Derived.Test.YtmlifjfgelfbbaaRe
import Derived.Test.YtmlifjfgelfbbaaRt
namespace Go.Proofs.Ytmlifjfgelfbbaa
open Go Go.RowKit

/-- A page with a row in its first slot. -/
def twoPg (pl r n : Nat) (b : List UInt8) : Pg := { (⟨0, r, n, zs 200⟩ : Pg).put 0 b with mark := pl }
theorem twoPg_dec {pl r n : Nat} {b : List UInt8} (hb : b.length = 40) (hs : rowSt b = 0) (h0 : pl ≠ 0) (hp : pl < 2 ^ 64) (hr : r < 65536) (hn : n < 6) :
    (twoPg pl r n b).Wf ∧ Pg.dec (twoPg pl r n b).enc r n = twoPg pl r n b ∧ decOk (twoPg pl r n b).enc r n = true ∧ slotStr (slotAt (twoPg pl r n b).slots 0) = b := by
  have hsl := put_slots hb (s := 0) (by decide) ⟨0, r, n, zs 200⟩ rfl
  have hw : (twoPg pl r n b).Wf := ⟨Pg.put_len (zs_len 200) (by decide) hb, hp, hr, by show n < 65536; omega⟩
  refine ⟨hw, ?_⟩
  have := Pg.dec_enc hw (fun h => absurd h h0) fun i hi => by
    show rowSt (slotAt ((⟨0, r, n, zs 200⟩ : Pg).put 0 b).slots i) ≠ 9
    rw [hsl i hi]
    split
    · rw [hs]; decide
    · rw [rowSt_zs]; decide
  refine ⟨this.1, this.2, ?_⟩
  show slotStr (slotAt ((⟨0, r, n, zs 200⟩ : Pg).put 0 b).slots 0) = b
  rw [hsl 0 (by decide), if_pos rfl]
  unfold slotStr
  rw [if_neg]
  intro hh
  rw [hh, rowSt_zs] at hs
  cases hs
theorem blank_dec {r n : Nat} (hr : r < 65536) (hn : n < 6) : Pg.dec (zs 256) r n = ⟨0, r, n, zs 200⟩ ∧ decOk (zs 256) r n = true := by
  have hw : (⟨0, r, n, zs 200⟩ : Pg).Wf := ⟨zs_len 200, show (0 : Nat) < 2 ^ 64 by decide, hr, show n < 65536 by omega⟩
  have := Pg.dec_enc hw (fun _ => rfl) fun i hi => by
    show rowSt (slotAt (zs 200) i) ≠ 9
    rcases show i = 0 ∨ i = 1 ∨ i = 2 ∨ i = 3 ∨ i = 4 by omega with rfl | rfl | rfl | rfl | rfl <;> decide
  exact this
/-- A pool with one page at hand. -/
def onePo (d r l k : Nat) (p : Pg) (s : Nat) : PoS := ⟨d, r, l, ⟨k, some p, s, true⟩, Fr.none', Fr.none', 0⟩
theorem onePo_find {d r l k s n : Nat} {p : Pg} (h : p.number = n) : (onePo d r l k p s).find n = some 0 := by
  unfold PoS.find onePo Fr.has
  simp [h]
theorem onePo_pages {d r l k s : Nat} {p : Pg} (h : p.Wf) (hn : p.number < 6) : (onePo d r l k p s).Pages := fun i hi q hq => by
  rcases three hi with rfl | rfl | rfl
  · cases hq
    exact ⟨h, hn⟩
  · cases hq
  · cases hq
theorem onePo_touch {d r l k n pl : Nat} {p : Pg} (h : p.number = n) : (onePo d r l k p 0).touch n pl = onePo d r l k { p with mark := pl } pl := by
  unfold PoS.touch
  rw [onePo_find h]
  rfl
theorem onePo_new {d r l k : Nat} {p : Pg} : (PoS.new d r l).setFr 0 ⟨k, some p, ((PoS.new d r l).fr 0).since, true⟩ = onePo d r l k p 0 := rfl
theorem onePo_box {b d r l k s : Nat} {p : Pg} : poB b (onePo d r l k p s) = cel b (onePo d r l k p s).cells 90 * pgB k p := by
  show cel b _ _ * (pgB k p * (1 * 1)) = _
  simp only [HP.mul_one]
theorem onePo_cells {d r l k s : Nat} {p q : Pg} : (onePo d r l k p s).cells = (onePo d r l k q s).cells := rfl

set_option maxRecDepth 100000 in
set_option maxHeartbeats 16000000 in
theorem twoPut_any (w0 w : World) (R : HP) (cD cN D n r tn : Nat) (kk vv : ByteArray) (m : Dk) (ht4 : tn < 4) (hk15 : kk.size ≤ 15) (hv21 : vv.size ≤ 21) (hm : m.Wf) (hr : r < m.regs.length) (hr2 : r < 65536) (hn : n < 6) (hsz : m.size = 538) (hw : m.wts r = []) (hu : m.armd r = false) (hb : m.page r n = zs 256) (hwn : m.writes ≤ 10000)
    (h : At w0 (cel cD #[.pointer (some ⟨D, 0, none⟩)] 23 * (cel cN #[.int .i64 n] 3 * (dsk D m * R))) w) :
    Calls Try.prog 27 #[.int .i64 r, .agg #[.int .i64 tn, .string kk, .string vv], .pointer (some ⟨cD, 0, none⟩), .pointer (some ⟨cN, 0, none⟩)] w fun e w' => ∃ m' L all k pl, e = .returned (.bool true) ∧
      Same m m' r ∧ LSt m' r L all k ∧ m'.armd r = false ∧ m'.writes ≤ m.writes + 2000 ∧ pl ≠ 0 ∧ pl < 2 ^ 64 ∧ m'.page r n = (twoPg pl r n (rowEnc tn kk.data.toList vv.data.toList)).enc ∧
      At w0 (cel cD #[.pointer (some ⟨D, 0, none⟩)] 23 * (cel cN #[.int .i64 n] 3 * (dsk D m' * R))) w' := by
  obtain ⟨X, hX⟩ : ∃ N, w.heap.size = N := ⟨_, rfl⟩
  have h0 : At w0 (cel X #[.int .i64 tn, .string kk, .string vv] 57 * (cel cD #[.pointer (some ⟨D, 0, none⟩)] 23 * (cel cN #[.int .i64 n] 3 * (dsk D m * R)))) (w.alloc (.cells #[.int .i64 tn, .string kk, .string vv] 57)) := h.alloc' hX _
  obtain ⟨F, hF⟩ : ∃ F : HP, cel X #[.int .i64 tn, .string kk, .string vv] 57 * (cel cD #[.pointer (some ⟨D, 0, none⟩)] 23 * (cel cN #[.int .i64 n] 3 * R)) = F := ⟨_, rfl⟩
  have HF : ∀ w', At w0 F w' → w'.cell? ⟨cD, 0, none⟩ = some (.pointer (some ⟨D, 0, none⟩)) ∧ w'.cell? ⟨cN, 0, none⟩ = some (.int .i64 n) ∧ w'.cell? ⟨X, 0, none⟩ = some (.int .i64 tn) ∧ w'.cell? ⟨X, 1, none⟩ = some (.string kk) ∧ w'.cell? ⟨X, 2, none⟩ = some (.string vv) := fun w' h' => by
    rw [← hF] at h'
    exact ⟨At.cell h'.pull2 rfl, At.cell h'.pull3 rfl, At.cell h' rfl, At.cell h' rfl, At.cell h' rfl⟩
  have HFe := hide hF
  have HFh := hide HF
  have h1 := h0.cast (show _ = dsk D m * F by rw [← hF]; ac_rfl)
  have hln := laneNew_pg w0 _ F D r m hm hr (by omega) hw hu (by omega) h1
  obtain ⟨cx0, cx1, cx2, cx3, cx4⟩ := HF _ h1.r
  clear h h0 hF HF
  go_enter Try.func27, Try.ntmps27
  go_upto_region 1 with fail
  generalize hw1 : w.alloc _ = w1 at h1 hln cx0 cx1 cx2 cx3 cx4 ⊢
  try rw [hX]
  clear hw1 hX
  go_wp2_with fail
  refine hln.mono ?_
  rintro e w2 ⟨P, L, m1, rfl, hs, hg, _, hsame, hun, hwr, hps, h2⟩
  clear hln h1 cx0 cx1 cx2 cx3 cx4
  have hb1 : m1.page r n = zs 256 := (hps.page hw hs.rest.wts (by rw [hsz]; unfold pgAt; omega)).trans hb
  have hpn := poolNew_any w0 w2 _ D r P h2
  obtain ⟨cx0, cx1, -⟩ := HFh.out _ h2.r.r
  clear h2
  go_wp2_with fail
  refine hpn.mono ?_
  rintro e w3 ⟨b, rfl, h3⟩
  clear hpn cx0 cx1
  have hgt := poolGet_new w0 w3 (lan P D r L * F) b (PoS.new D r P) m1 n 0 hs.rest.hr hr2 hn (by rw [hsame.size]; omega) (by rw [hsame.size]; omega) (by omega) rfl rfl (h3.cast (show _ = poB b (PoS.new D r P) * (dsk D m1 * (lan P D r L * F)) by ac_rfl))
  obtain ⟨bd1, bd2⟩ := blank_dec hr2 hn
  rw [show (PoS.new D r P).r = r from rfl, hb1] at hgt
  unfold gotB at hgt
  rw [show (PoS.new D r P).r = r from rfl, bd1, bd2] at hgt
  obtain ⟨cx0, cx1, -⟩ := HFh.out _ (h3.r.r.r)
  clear h3 bd1 bd2
  go_wp2_with fail
  refine hgt.mono ?_
  rintro e w4 hx
  have hx2 : ∃ k, e = .returned (.tuple #[.pointer (some ⟨k, 0, none⟩), .int .i64 0]) ∧ At w0 (poB b (onePo D r P k ⟨0, r, n, zs 200⟩ 0) * (dsk D m1 * (lan P D r L * F))) w4 := by
    rcases hx with ⟨_, hx⟩ | ⟨hno, _⟩
    · exact hx
    · cases hno
  obtain ⟨k, rfl, h4⟩ := hx2
  clear hx
  clear hgt cx0 cx1
  have hap := laneAppend_ok w0 w4 (poB b (onePo D r P k ⟨0, r, n, zs 200⟩ 0) * (dsk D m1 * F)) P D r (recUpdN n) none 0 hs (recUpdN_good hn) (by rw [recUpdN_len, encR_check]; decide) (fun _ _ => .inl ⟨rfl, rfl⟩) (h4.cast (by ac_rfl))
  rw [hg, encR_check] at hap
  obtain ⟨pl, hpl⟩ : ∃ pl, 1 * 1048576 + 11 + 1 = pl := ⟨_, rfl⟩
  rw [hpl] at hap
  have hpl0 : pl ≠ 0 := by omega
  have hpl2 : pl < 2 ^ 64 := by omega
  have Hpl0 := hide hpl0
  clear hpl0 hpl
  simp only [Rec.cells, recUpdN] at hap
  obtain ⟨cx0, cx1, -⟩ := HFh.out _ (h4.r.r.r)
  clear h4
  go_wp2_with fail
  refine hap.mono ?_
  rintro e w5 ⟨L2, rfl, hst2, hgn2, _, h5⟩
  clear hap cx0 cx1
  obtain ⟨EB, hEB⟩ : ∃ EB, rowEnc tn kk.data.toList vv.data.toList = EB := ⟨_, rfl⟩
  have hEl : EB.length = 40 := by rw [← hEB]; exact rowEnc_len (by rw [Array.length_toList]; exact hk15) (by rw [Array.length_toList]; exact hv21)
  have hEr : rowSt EB = 0 := by rw [← hEB]; exact (rowEnc_tells ht4 (by rw [Array.length_toList]; exact hk15) (by rw [Array.length_toList]; exact hv21)).2.2.2.2
  obtain ⟨Es, hEs⟩ : ∃ Es : ByteArray, ⟨EB.toArray⟩ = Es := ⟨_, rfl⟩
  have hEd : Es.data.toList = EB := by rw [← hEs]
  have hen := rowEncode_any w0 w5 _ tn kk vv ht4 hk15 hv21 h5
  rw [hEB] at hen
  have Hcv := hide (fun v ws (h : Rd ws v (bys EB)) => run_txt (P := Try.prog) 32 5 9 Try.underlying32 Try.underlying5 Try.underlying9 (w := ws) (l := EB) (v := v) h)
  obtain ⟨-, -, cx2, cx3, cx4⟩ := HFh.out _ (h5.r.r.r)
  have Hst2 := hide hst2
  have Hg2 := hide hgn2
  have Hsame := hide hsame
  have Hwr := hide hwr
  have Hun := hide hun
  clear hs h5 hst2 hgn2 hg hsame hwr hun hps hb1 hb hw hu
  go_wp2_with fail
  refine hen.mono ?_
  rintro e w6 ⟨a6, c6, rfl, h6⟩
  clear hen cx2 cx3 cx4
  have hcv := Hcv.out _ _ h6.rd
  unfold str at hcv
  rw [hEs] at hcv
  have hse := pageSet_row w0 w6 (row 5 1 (.slice a6 40 c6) 40 (bys EB) * (cel b (onePo D r P k ⟨0, r, n, zs 200⟩ 0).cells 90 * (lan P D r L2 * (dsk D m1 * F)))) k ⟨0, r, n, zs 200⟩ 0 Es (zs_len 200) (by decide) (by rw [hEd]; exact hEl) (by rw [hEd]; exact hEr) (h6.cast (by rw [onePo_box]; ac_rfl))
  change Calls _ _ #[_, .int .i64 0, _] _ _ at hse
  rw [hEd] at hse
  clear h6 Hcv
  go_wp2_with fail
  refine hse.mono ?_
  rintro e w7 ⟨rfl, h7⟩
  clear hse hcv
  have h8 : At w0 (poB b (onePo D r P k ((⟨0, r, n, zs 200⟩ : Pg).put 0 EB) 0) * (lan P D r L2 * (dsk D m1 * (row 5 1 (.slice a6 40 c6) 40 (bys EB) * F)))) w7 := h7.cast (by rw [onePo_box, onePo_cells (q := (⟨0, r, n, zs 200⟩ : Pg).put 0 EB)]; ac_rfl)
  have hth := poolTouch_any w0 w7 _ b _ n pl h8
  rw [onePo_touch (show ((⟨0, r, n, zs 200⟩ : Pg).put 0 EB).number = n from rfl)] at hth
  change Calls _ _ _ _ (fun e w' => e = _ ∧ At w0 (poB b (onePo D r P k (twoPg pl r n EB) pl) * _) w') at hth
  obtain ⟨cx0, cx1, -⟩ := HFh.out _ (h8.r.r.r.r)
  clear h7 h8
  go_wp2_with fail
  refine hth.mono ?_
  rintro e w8 ⟨rfl, h9⟩
  clear hth cx0 cx1
  have hsz1 : m1.size = 538 := Hsame.out.size.trans hsz
  obtain ⟨hwf, hdec, -, -⟩ := twoPg_dec (r := r) (n := n) hEl hEr Hpl0.out hpl2 hr2 hn
  have hfl := poolFlush_any w0 w8 (row 5 1 (.slice a6 40 c6) 40 (bys EB) * F) b (onePo D r P k (twoPg pl r n EB) pl) n (L := L2) (m := m1) Hst2.out Hun.out (by have := Hwr.out; omega) (by omega) (by omega) (onePo_pages hwf hn) h9
  obtain ⟨cx0, cx1, -⟩ := HFh.out _ (h9.r.r.r.r)
  have Hwf := hide hwf
  clear h9 hwf hdec
  go_wp2_with fail
  refine hfl.mono ?_
  rintro e w9 ⟨L3, m3, rfl, hrel, h10⟩
  clear hfl cx0 cx1
  have hpw : PgWr m1 m3 r L2 L3 ([recCheck] ++ [recUpdN n]) (twoPg pl r n EB) := by
    have hfd : (onePo D r P k (twoPg pl r n EB) pl).find n = some 0 := onePo_find rfl
    rcases hrel with ⟨hcl, _⟩ | ⟨_, i, p, hi, hp, hw⟩
    · exfalso
      unfold PoS.clean at hcl
      rw [hfd] at hcl
      have : pl = 0 := by simpa [onePo, PoS.fr] using hcl
      exact Hpl0.out this
    · rw [hfd] at hi
      cases hi
      cases hp
      exact hw
  have h11 : At w0 (cel cD #[.pointer (some ⟨D, 0, none⟩)] 23 * (cel cN #[.int .i64 n] 3 * (dsk D m3 * R))) w9 := by
    rw [← HFe.out] at h10
    exact (h10.cast (show _ = cel cD #[.pointer (some ⟨D, 0, none⟩)] 23 * (cel cN #[.int .i64 n] 3 * (dsk D m3 * R)) * (poB b ((onePo D r P k (twoPg pl r n EB) pl).flushed n) * (lan P D r L3 * (row 5 1 (.slice a6 40 c6) 40 (bys EB) * cel X #[.int .i64 tn, .string kk, .string vv] 57))) by ac_rfl)).l
  clear h10 hrel
  go_wp2_with fail
  go_ret
  refine ⟨m3, L3, _, _, pl, rfl, Hsame.out.trans hpw.same, hpw.st, hpw.armd, by have := hpw.writes; have := Hwr.out; omega, Hpl0.out, hpl2, ?_, h11⟩
  rw [hEB]
  exact hpw.page
end Go.Proofs.Ytmlifjfgelfbbaa
