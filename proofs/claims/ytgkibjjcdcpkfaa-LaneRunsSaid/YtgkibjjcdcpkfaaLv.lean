/-
  Of layer 7's statements: fit: it returns true: a contract, no statement.
-/
import Derived.Test.YtgkibjjcdcpkfaaLu
namespace Go.Proofs.Ytgkibjjcdcpkfaa
open Go Go.RowKit

def recEnd : Rec := ⟨6, 0, 0, 0, ⟨#[]⟩, ⟨#[]⟩, ⟨#[]⟩, []⟩
theorem recEnd_good : Good recEnd := ⟨by simp [Rec.right, recEnd, cellB], fun d hd => by simp [recEnd] at hd⟩
theorem Ln.place_eq (L : Ln) (k : Nat) : L.place k = L.gen * 1048576 + k + 1 := rfl

set_option maxRecDepth 100000 in
set_option maxHeartbeats 4000000 in
theorem lawFit_any (w0 w : World) (A : HP) (h : At w0 A w) :
    Calls Try.prog 12 #[] w fun e w' => e = .returned (.bool true) ∧ At w0 A w' := by
  have hnew := diskNew_any w0 w A 1 538 (by decide) (by decide) (by decide) (by decide) h
  change Calls _ _ #[.int .i64 1, .int .i64 538] _ _ at hnew
  clear h
  go_enter Try.func12, Try.ntmps12
  go_wp2_with fail
  refine hnew.mono ?_
  rintro e w1 ⟨D, rfl, h1⟩
  clear hnew
  have hN := Dk.new_at 1 538 0 (by decide)
  have hln := laneNew_st w0 w1 A D 0 (Dk.new 1 538) (Dk.new_wf (by decide) (by decide) (by decide)) (by decide) (by decide) hN.1 hN.2 (by decide) h1
  change Calls _ _ #[_, .int .i64 0] _ _ at hln
  have hn1 : (Dk.new 1 538).regs.length = 1 := rfl
  have hn2 : (Dk.new 1 538).writes = 0 := rfl
  rw [hn2] at hln
  generalize Dk.new 1 538 = m0 at *
  clear h1 hN
  go_wp2_with fail
  refine hln.mono ?_
  rintro e w2 ⟨P, L, m1, rfl, hs, hg, hb, hsame, hun, hwr, h2⟩
  clear hln
  obtain ⟨hap, hs2⟩ := hs.append_ok recEnd_good (by
    rw [encR_check]
    show 11 + (recEnd).enc.length ≤ _
    unfold recEnd
    rw [enc11]
    decide)
  have hac := laneAppend_any w0 w2 (dsk D m1 * A) P D 0 L recEnd none 0 (fun d hd => by simp [recEnd] at hd) (fun w' _ => .inl ⟨rfl, rfl⟩) h2
  rw [hap] at hac
  have hbl : (L.b ++ recEnd.enc).length = 22 := by
    rw [hs.b, List.length_append, encR_check]
    unfold recEnd
    rw [enc11]
  generalize hL2 : ({ L with b := L.b ++ recEnd.enc } : Ln) = L2 at *
  have hL2b : L2.b.length = 22 := by rw [← hL2]; exact hbl
  simp only [Rec.cells, recEnd] at hac
  have Hs2 := hide hs2
  have Hun := hide hun
  have Hwr := hide hwr
  have Hsame := hide hsame
  generalize L.place (encR [recCheck]).length = pl at hac
  clear h2 hs hap hs2 hbl hL2 hun hwr hsame hg hb
  go_wp2_with fail
  refine hac.mono ?_
  rintro e w3 ⟨rfl, h3⟩
  clear hac
  have h4 := h3.pull2
  have hcr := diskCrash_any w0 w3 (lan P D 0 L2 * A) D m1 0 (by decide) (by have := Hwr.out; omega) h4
  change Calls _ _ #[_, .int .u64 0] _ _ at hcr
  obtain ⟨hs3, hun3⟩ := Hs2.out.crashed 0
  have hw3 := (Dk.crash_at (mask := 0) Hs2.out.rest.wf).2.2.2.1
  clear h3 h4
  go_wp2_with fail
  refine hcr.mono ?_
  rintro e w4 ⟨rfl, h5⟩
  clear hcr
  have hop := laneOpen_st w0 w4 _ D 0 (m1.crash 0) hs3 hun3 (by rw [hw3]; have := Hwr.out; omega) h5
  change Calls _ _ #[_, .int .i64 0] _ _ at hop
  clear hs3 hun3 hw3 h5
  go_wp2_with fail
  refine hop.mono ?_
  rintro e w5 ⟨P2, a, c, es, m2, rfl, hel, hes, hs4, hsm, hun4, hwr4, h6⟩
  clear hop
  have h7 := h6.pull5
  have hlen := laneLen_any w0 w5 _ P D 0 L2 h7
  rw [hL2b] at hlen
  change Calls _ _ _ _ (fun e w' => e = .returned (.int .i64 22) ∧ w5 = w') at hlen
  have hE := EntsIn.of_row rfl h6.pull2.pull3.pull2
  have hel1 : es.length = 1 := hel
  obtain ⟨g, o, hao, hcs⟩ := hE.at h6.pull2.pull3.pull2 (i := 0) (by omega)
  have hkind : (es[0]'(by omega)).2.1.kind = 1 := by
    have h8 := places_good hes
    have h9 : (es.map (·.2.1))[0]? = some recCheck := by rw [h8]; rfl
    rw [List.getElem?_map, List.getElem?_eq_getElem (by omega)] at h9
    simp only [Option.map_some, Option.some.injEq] at h9
    rw [h9]
    rfl
  have hc1 := hcs 1 (.int .i64 1) (by
    rw [← hkind]
    rfl)
  subst hao
  rw [Nat.zero_mul, Nat.add_zero] at hc1
  have hfin : At w0 A w5 := h6.r.r.r.r.r
  rw [hel1]
  clear hE hkind hcs h6 h7 hes hs4 hsm
  go_wp2_with fail
  refine hlen.mono ?_
  rintro e w6 ⟨rfl, rfl⟩
  clear hlen
  go_wp2_with fail
  go_ret
  exact ⟨rfl, hfin⟩
end Go.Proofs.Ytgkibjjcdcpkfaa
