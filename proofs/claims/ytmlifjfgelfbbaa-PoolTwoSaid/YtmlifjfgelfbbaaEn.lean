/-
  record.Encode: what it comes to, in terms of blocks: a contract, no statement.
-/
import Derived.Test.YtmlifjfgelfbbaaRc
import Derived.Deep.RegionHeld3
namespace Go.Proofs.Ytmlifjfgelfbbaa
open Go Go.RowKit

def b8 (x : Int) : UInt8 := UInt8.ofNat x.toNat
theorem byv_b8 {x : Int} (h0 : 0 ≤ x) (h : x < 256) : byv (b8 x) = .int .u8 x := by
  unfold byv b8
  rw [UInt8.toNat_ofNat']
  congr 1
  omega
theorem flat_len (k : Nat) : ∀ l : List Nat, (l.flatMap (be k)).length = k * l.length
  | [] => rfl
  | x :: l => by rw [List.flatMap_cons, List.length_append, flat_len k l, be_len, List.length_cons, Nat.mul_add]; omega
/-- What a frame says. -/
def Rec.body (r : Rec) : List UInt8 :=
  [b8 r.kind, b8 r.txn, b8 r.page, b8 r.slot] ++ be 1 r.before.size ++ r.before.data.toList ++ be 1 r.after.size ++ r.after.data.toList ++ be 2 r.image.size ++ r.image.data.toList ++ be 1 r.dirty.length ++ r.dirty.flatMap (be 8)
def Rec.enc (r : Rec) : List UInt8 := be 2 r.body.length ++ r.body
/-- A record whose parts have room in a frame. -/
structure Rec.Fair (r : Rec) : Prop where
  kind : 0 ≤ r.kind ∧ r.kind < 256
  txn : 0 ≤ r.txn ∧ r.txn < 256
  page : 0 ≤ r.page ∧ r.page < 256
  slot : 0 ≤ r.slot ∧ r.slot < 256
  before : r.before.size < 256
  after : r.after.size < 256
  image : r.image.size < 65536
  dirty : r.dirty.length < 256
  nums : ∀ d ∈ r.dirty, d < 2 ^ 64
theorem At.row_new {w0 w : World} {R : HP} {g : Nat} {xs : List Value} {e : TypeId} {m : Nat} (h : At w0 (cel g xs.toArray e * R) w) (hm : m = xs.length) (hl : xs.length ≤ maxLen) : At w0 (row e 1 (.slice (some ⟨g, 0, none⟩) m m) m xs * R) w := by
  subst hm
  exact h.mkrow (Nat.le_refl _) hl (by simp) (by simp)

set_option maxRecDepth 100000 in
set_option maxHeartbeats 4000000 in
theorem recEncode_any (w0 w : World) (A : HP) (r : Rec) (a : Option Addr) (c : Nat) (hr : r.Fair) (hA : ∀ w', At w0 A w' → Rd w' (.slice a r.dirty.length c) (nus r.dirty)) (h : At w0 A w) :
    Calls Try.prog 38 #[.agg (r.cells (.slice a r.dirty.length c)).toArray] w fun e w' => ∃ a1 c1, e = .returned (.slice a1 r.enc.length c1) ∧ At w0 (row 5 1 (.slice a1 r.enc.length c1) r.enc.length (bys r.enc) * A) w' := by
  obtain ⟨i0, hi, hz0, hz1, hz2⟩ := info_parts Try.info8
  obtain ⟨kind, txn, page, slot, before, after, image, dirty⟩ := r
  obtain ⟨⟨k0, k1⟩, ⟨t0, t1⟩, ⟨p0, p1⟩, ⟨s0, s1⟩, hbe, haf, him, hdi, hnu⟩ := hr
  simp only at k0 k1 t0 t1 p0 p1 s0 s1 hbe haf him hdi hnu hA
  simp only [Rec.cells]
  obtain ⟨B, hB⟩ : ∃ N, w.heap.size = N := ⟨_, rfl⟩
  have h1 := h.alloc' hB (.cells #[.int .i64 kind, .int .i64 txn, .int .i64 page, .int .i64 slot, .string before, .string after, .string image, .slice a dirty.length c] 52)
  obtain ⟨F, hF⟩ : ∃ N, B + 1 = N := ⟨_, rfl⟩
  have h2 := At.row_new (xs := [.int .u8 kind, .int .u8 txn, .int .u8 page, .int .u8 slot]) (m := 4) (h1.alloc' (show _ = F by simp [hB, hF]) (.cells #[.int .u8 kind, .int .u8 txn, .int .u8 page, .int .u8 slot] 5)) rfl (by simp [maxLen])
  have Hb := hide (show [Value.int .u8 kind, .int .u8 txn, .int .u8 page, .int .u8 slot] = bys [b8 kind, b8 txn, b8 page, b8 slot] by simp only [bys, List.map_cons, List.map_nil, byv_b8 k0 k1, byv_b8 t0 t1, byv_b8 p0 p1, byv_b8 s0 s1])
  obtain ⟨en, hen0⟩ : ∃ en, Rec.enc ⟨kind, txn, page, slot, before, after, image, dirty⟩ = en := ⟨_, rfl⟩
  rw [hen0]
  have Henc := hide hen0
  clear hen0
  have HA := hide hA
  have Hnu := hide hnu
  have HB := hide hB
  clear hA hnu hB h1
  go_enter Try.func38, Try.ntmps38
  go_wp2_with fail
  rw [HB.out]
  clear HB
  rw [hF]
  have HF := hide hF
  clear hF
  generalize hw2 : World.alloc (World.alloc w _) _ = w2 at h2 ⊢
  clear hw2
  rw [Hb.out] at h2
  have h2 := h2.drew
  have q4 := At.cell (i := 4) h2.pull2 rfl
  have q5 := At.cell (i := 5) h2.pull2 rfl
  obtain ⟨o1, ho1⟩ : ∃ o, o = [b8 kind, b8 txn, b8 page, b8 slot] := ⟨_, rfl⟩
  obtain ⟨o2, ho2⟩ : ∃ o, o = o1 ++ be 1 before.size ++ before.data.toList := ⟨_, rfl⟩
  obtain ⟨o3, ho3⟩ : ∃ o, o = o2 ++ be 1 after.size ++ after.data.toList := ⟨_, rfl⟩
  have l1 : o1.length = 4 := by rw [ho1]; rfl
  have l2 : o2.length = 5 + before.size := by rw [ho2, List.length_append, List.length_append, l1, be_len, Array.length_toList]; rfl
  have l3 : o3.length = o2.length + 1 + after.size := by rw [ho3, List.length_append, List.length_append, be_len, Array.length_toList]; rfl
  rw [← ho1] at h2
  have t1 := packText_m w0 _ _ _ o1 before o2.length o2 (by omega) ho2 hbe (by omega) h2 h2.rd
  have hl2 : o2.length ≤ 100000000 := by omega
  have hl3 : o3.length ≤ 100000000 := by omega
  have L3 := hide l3
  have H1 := hide ho1
  have H2 := hide ho2
  have H3 := hide ho3
  clear l1 l2 l3 ho1 ho2 ho3
  go_region_held3 (fun w' => w'.cell? ⟨B, 4, none⟩ = some (.string before) ∧ w'.cell? ⟨B, 5, none⟩ = some (.string after)) (first | exact ⟨q4, q5⟩ | exact ⟨At.cell (i := 4) h3.pull3 rfl, At.cell (i := 5) h3.pull3 rfl⟩ | exact ⟨At.cell (i := 4) h4.pull4 rfl, At.cell (i := 5) h4.pull4 rfl⟩)
    (first | ((with_reducible refine t1.mono ?_); rintro e w3 ⟨a3, c3, rfl, h3⟩) | (have t2 := packText_m w0 _ _ _ o2 after o3.length o3 L3.out H3.out haf hl2 h3 h3.rd; (with_reducible refine t2.mono ?_); rintro e w4 ⟨a4, c4, rfl, h4⟩))
  clear h2 t1 q4 q5 h3 hl2
  go_wp2_with fail
  have h5 := h4.pull2.r.pull2.r.drew
  have q6 := At.cell (i := 6) h5.pull2 rfl
  obtain ⟨o4, ho4⟩ : ∃ o, o = o3 ++ be 2 image.size := ⟨_, rfl⟩
  obtain ⟨o5, ho5⟩ : ∃ o, o = o4 ++ image.data.toList := ⟨_, rfl⟩
  obtain ⟨o6, ho6⟩ : ∃ o, o = o5 ++ be 1 dirty.length := ⟨_, rfl⟩
  have l4 : o4.length = o3.length + 2 := by rw [ho4, List.length_append, be_len]
  have l5 : o5.length = o4.length + image.size := by rw [ho5, List.length_append, Array.length_toList]; rfl
  have l6 : o6.length = o5.length + 1 := by rw [ho6, List.length_append, be_len]
  have h3l := L3.out
  have lo2 : o2.length ≤ 300 := by rw [H2.out, List.length_append, List.length_append, be_len, Array.length_toList, H1.out]; show 4 + 1 + before.size ≤ 300; omega
  have b3 : o3.length ≤ 600 := by omega
  have b4 : o4.length ≤ 700 := by omega
  have b5 : o5.length ≤ 70000 := by omega
  have b6 : o6.length ≤ 70001 := by omega
  have t3 := packPut_m w0 _ _ _ o3 2 image.size o4.length o4 l4 ho4 (by decide) (by omega) (by omega) h5 h5.rd
  change Calls _ _ #[_, .int .i64 2, _] _ _ at t3
  have L5 := hide l5
  have L6 := hide l6
  have H4 := hide ho4
  have H5 := hide ho5
  have H6 := hide ho6
  clear l4 l5 l6 ho4 ho5 ho6 h3l lo2
  have hwr := wrap_u64 (x := (image.size : Int)) (by omega) (by omega)
  go_region_held3 (fun w' => w'.cell? ⟨B, 6, none⟩ = some (.string image)) (first | exact q6 | exact At.cell (i := 6) h6.pull3 rfl | exact At.cell (i := 6) h7.pull3 rfl)
    (first | ((with_reducible refine t3.mono ?_); rintro e w5 ⟨a5, c5, rfl, h6⟩) | ((refine step_append_txt rfl _ _ _ _ rfl 5 i0 _ Try.underlying32 Try.underlying9 hi hz0 hz1 hz2 rfl image rfl rfl h6 (by omega) o5.length (bys o5) L5.out (by rw [H5.out, bys_append]) ?_); intro a6 c6 w6 h7))
  clear hwr t3 q6 h6 h5
  have h8 := h7.pull2.r
  have t4 := packPut_m w0 _ _ _ o5 1 dirty.length o6.length o6 L6.out H6.out (by decide) (by omega) (by omega) h8 h8.rd
  change Calls _ _ #[_, .int .i64 1, _] _ _ at t4
  have q7 := At.cell (i := 7) h8.pull2 rfl
  clear h7
  go_wp2_with fail
  refine t4.mono ?_
  rintro e w7 ⟨a7, c7, rfl, h9⟩
  have h10 := h9.pull2.r
  have q7 := At.cell (i := 7) h10.pull2 rfl
  clear t4 h8 h9
  go_wp2_with fail
  obtain ⟨os, hos⟩ : ∃ f : Nat → List UInt8, f = fun i => o6 ++ (dirty.take i).flatMap (be 8) := ⟨_, rfl⟩
  have hos0 : os 0 = o6 := by rw [hos]; simp
  have hosl : ∀ i, i ≤ dirty.length → (os i).length ≤ 80000 := fun i hi => by
    rw [hos]
    simp only [List.length_append, flat_len, List.length_take]
    omega
  have hoss : ∀ i (hi : i < dirty.length), os (i + 1) = os i ++ be 8 dirty[i] := fun i hi => by
    rw [hos]
    simp only [List.take_succ_eq_append_getElem hi, List.flatMap_append, List.flatMap_cons, List.flatMap_nil, List.append_nil, List.append_assoc]
  have Hosl := hide hosl
  have Hoss := hide hoss
  have Hosn := hide (show os dirty.length = o6 ++ dirty.flatMap (be 8) by rw [hos]; simp)
  rw [← hos0] at h10 ⊢
  clear hos hosl hoss hos0
  go_loopw [3, 44] (fun u3 u44 wr => ∃ (i : Nat) (ar : Option Addr) (cp : Nat), i ≤ dirty.length ∧ u44 = .int .i64 i ∧ u3 = .slice ar (os i).length cp ∧ At w0 (row 5 1 (.slice ar (os i).length cp) (os i).length (bys (os i)) * (cel B #[.int .i64 kind, .int .i64 txn, .int .i64 page, .int .i64 slot, .string before, .string after, .string image, .slice a dirty.length c] 52 * A)) wr) (fun _ u _ => dirty.length - (intOf u).toNat)
  case atStart => exact ⟨0, a7, c7, Nat.zero_le _, rfl, rfl, h10⟩
  case round =>
    obtain ⟨i, ar, cp, hid, rfl, rfl, h11⟩ := hrel
    clear h10 q7
    by_cases hil : i < dirty.length
    · have hrd := HA.out wr h11.r.r
      obtain ⟨g, o, hga, hgc⟩ := hrd.get (by omega)
      subst hga
      have d0 := hgc i (.int .u64 (dirty[i] : Nat)) (by simp [nus, List.getElem?_eq_getElem hil])
      have hn64 := Hnu.out dirty[i] (List.getElem_mem hil)
      have hls := Hosl.out i (by omega)
      have hss := Hoss.out i hil
      have t5 := packPut_m w0 _ _ _ (os i) 8 dirty[i] (os (i + 1)).length (os (i + 1)) (by rw [hss, List.length_append, be_len]) hss (by decide) hn64 (by omega) h11 h11.rd
      change Calls _ _ #[_, .int .i64 8, _] _ _ at t5
      clear hgc hrd hss hn64 hls
      generalize dirty[i] = dx at *
      go_wp2_with fail
      refine t5.mono ?_
      rintro e w8 ⟨a8, c8, rfl, h12⟩
      have h13 := h12.pull2.r
      clear t5 h11 h12
      go_wp2_with fail
      go_roundw
      case rel => exact ⟨i + 1, a8, c8, by omega, by go_num, rfl, h13⟩
      case measure => simp [intOf]; omega
    · obtain rfl : i = dirty.length := by omega
      obtain ⟨bd, hbd⟩ : ∃ o, os dirty.length = o := ⟨_, rfl⟩
      have hlb := Hosl.out _ (Nat.le_refl _)
      have hen := Henc.out.symm
      have hb2 : Rec.body ⟨kind, txn, page, slot, before, after, image, dirty⟩ = bd := by
        rw [← hbd, Hosn.out, H6.out, H5.out, H4.out, H3.out, H2.out, H1.out]
        simp only [Rec.body, List.append_assoc]
      unfold Rec.enc at hen
      rw [hb2] at hen
      rw [hbd] at h11 hlb ⊢
      have t6 := packPut_m w0 _ _ _ [] 2 bd.length 2 (be 2 bd.length) rfl rfl (by decide) (by omega) (by simp) h11 (Rd.nil _)
      change Calls _ _ #[_, .int .i64 2, _] _ _ at t6
      have hel : en.length = 2 + (bys bd).length := by rw [hen, List.length_append, be_len, bys_len]
      have Hen := hide hen
      have Hel := hide hel
      have hbl := bys_len bd
      clear hen hb2 hbd hel
      go_wp2_with fail
      refine t6.mono ?_
      rintro e w9 ⟨a9, c9, rfl, h14⟩
      have hrd := h14.pull2.rd
      clear t6 h11
      go_wp2_with (at_builtin; go_loud (refine wpList_append_rdm rfl _ _ _ rfl 5 i0 _ 1 Try.underlying32 hi hz0 hz1 hz2 rfl rfl rfl h14 hrd (bys_one _) (by unfold maxLen; omega) (by omega) en.length (bys en) Hel.out (by rw [Hen.out, bys_append]) ?_))
      intro a10 c10 w10 h15
      go_wp2_with fail
      go_ret
      exact ⟨a10, c10, rfl, h15.pull2.r.pull2.r⟩
end Go.Proofs.Ytmlifjfgelfbbaa
