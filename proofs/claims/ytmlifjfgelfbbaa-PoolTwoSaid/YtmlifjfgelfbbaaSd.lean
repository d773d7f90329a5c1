/-
  Of layer 6's statements: cell, Seed.Record: what they come to: contracts, no statement.
-/
import Derived.Test.YtmlifjfgelfbbaaLZ
import Derived.Laws.CopyRow
import Derived.Test.YtmlifjfgelfbbaaRR
namespace Go.Proofs.Ytmlifjfgelfbbaa
open Go Go.RowKit

/-- What is second is forgotten. -/
theorem At.drop2 {w0 w : World} {A B R : HP} (h : At w0 (A * (B * R)) w) : At w0 (A * R) w := (h.cast (show _ = A * R * B by ac_rfl)).l
/-- A slot's bytes of a byte. -/
def cellL (n : Nat) : List UInt8 := [1, 0, 0, 0, 0, 0, 0, UInt8.ofNat n] ++ zbys 32
def cellT (n : Nat) : ByteArray := if n = 0 then ⟨#[]⟩ else tx (cellL n)
theorem Try.made40 (w : World) : (Instr.makeSlice 32 (.int .i64 40) (.int .i64 40)).run Try.prog w = .ok (.slice (some ⟨w.heap.size, 0, none⟩) 40 40) (w.alloc (.cells (bys (zbys 40)).toArray 5)) := by kernel_rfl
theorem Try.made256 (w : World) : (Instr.makeSlice 32 (.int .i64 256) (.int .i64 256)).run Try.prog w = .ok (.slice (some ⟨w.heap.size, 0, none⟩) 256 256) (w.alloc (.cells (bys (zbys 256)).toArray 5)) := by kernel_rfl
theorem Try.made6 (w : World) : (Instr.makeSlice 50 (.int .i64 6) (.int .i64 6)).run Try.prog w = .ok (.slice (some ⟨w.heap.size, 0, none⟩) 6 6) (w.alloc (.cells (nus (List.replicate 6 0)).toArray 37)) := by kernel_rfl
theorem byv_ofNat {n : Nat} (h : n < 256) : byv (UInt8.ofNat n) = .int .u8 n := by
  unfold byv
  rw [UInt8.toNat_ofNat']
  congr 1
  omega

set_option maxRecDepth 100000 in
set_option maxHeartbeats 2000000 in
theorem seedCell_any (w0 w : World) (A : HP) (n : Nat) (hn : n < 256) (h : At w0 A w) :
    Calls Try.prog 54 #[.int .u8 n] w fun e w' => e = .returned (.string (cellT n)) ∧ At w0 A w' := by
  by_cases h0 : n = 0
  · subst h0
    go_enter Try.func54, Try.ntmps54
    go_wp2_with fail
    go_ret
    exact ⟨rfl, h⟩
  · have hmk := Try.made40 w
    obtain ⟨N, hN⟩ : ∃ N, w.heap.size = N := ⟨_, rfl⟩
    obtain ⟨zs, hzs⟩ : ∃ zs, bys (zbys 40) = zs := ⟨_, rfl⟩
    rw [hN, hzs] at hmk
    have h1 := (h.alloc' hN (.cells zs.toArray 5)).row_new (m := 40) (by rw [← hzs, bys_len]; simp [zbys]) (by rw [← hzs, bys_len]; simp [zbys, maxLen])
    have h2 := (h1.row_set 0 (.int .u8 1)).row_set' 7 (.int .u8 n) (ys := bys (cellL n)) (by
      rw [← hzs, ← byv_ofNat hn]
      rfl)
    have c0 : (w.alloc (.cells zs.toArray 5)).cell? ⟨N, 0, none⟩ = some (.int .u8 0) := (h1.row_cell rfl (by rw [← hzs]; rfl)).2
    have c7 : (w.alloc (.cells zs.toArray 5)).cell? ⟨N, 7, none⟩ = some (.int .u8 0) := (h1.row_cell rfl (by rw [← hzs]; rfl)).2
    have f0 := h1.row_fz 0
    have f7 := h1.row_fz 7
    have lt := h1.row_lt
    have hcv := run_txt (P := Try.prog) 32 5 9 Try.underlying32 Try.underlying5 Try.underlying9 h2.rd
    have hnz : ¬ ((n : Int) = 0) := by omega
    have he : cellT n = ⟨(cellL n).toArray⟩ := by unfold cellT; rw [if_neg h0]; rfl
    have hq := h2.r
    rw [he]
    unfold str at hcv
    generalize (⟨(cellL n).toArray⟩ : ByteArray) = X at hcv ⊢
    clear h h1 h2 hN hzs he h0
    go_enter Try.func54, Try.ntmps54
    go_wp2_with fail
    go_ret
    exact ⟨rfl, hq⟩

/-- A seed of a record. -/
structure Sd where
  kind : Int
  txn : Int
  page : Int
  slot : Int
  before : Nat
  after : Nat
  image : Nat
  dirty : List Nat
def Sd.cells (s : Sd) (dv : Value) : List Value := [.int .i64 s.kind, .int .i64 s.txn, .int .i64 s.page, .int .i64 s.slot, .int .u8 s.before, .int .u8 s.after, .int .u8 s.image, dv]
structure Sd.Wf (s : Sd) : Prop where
  before : s.before < 256
  after : s.after < 256
  image : s.image < 256
  nums : ∀ d ∈ s.dirty, d < 2 ^ 64
def imgL (n : Nat) : List UInt8 := zbys 3 ++ ([UInt8.ofNat n] ++ (zbys 196 ++ ([UInt8.ofNat n] ++ zbys 55)))
theorem zbys_len (n : Nat) : (zbys n).length = n := List.length_replicate ..
set_option maxRecDepth 10000 in
theorem imgL_len (n : Nat) : (imgL n).length = 256 := by
  unfold imgL
  rw [List.length_append, List.length_append, List.length_append, List.length_append, zbys_len, zbys_len, zbys_len]
  rfl
def imgT (n : Nat) : ByteArray := if n = 0 then ⟨#[]⟩ else tx (imgL n)
def Sd.kd (s : Sd) : Int := (s.kind.tmod 7 + 7).tmod 7 + 1
def Sd.pg (s : Sd) : Int := (s.page.tmod 6 + 6).tmod 6
def Sd.sl (s : Sd) : Int := (s.slot.tmod 5 + 5).tmod 5
def Sd.dy (s : Sd) : List Nat := if s.kd = 7 ∧ 0 < s.dirty.length then s.dirty.take 6 ++ List.replicate (6 - s.dirty.length) 0 else []
def Sd.rcd (s : Sd) : Rec := ⟨s.kd, bits .and .i64 s.txn 255, s.pg, s.sl, cellT s.before, cellT s.after, imgT s.image, s.dy⟩
theorem and255 (x : Int) : 0 ≤ bits .and .i64 x 255 ∧ bits .and .i64 x 255 ≤ 255 := by
  have h : (BitVec.ofInt 64 x &&& BitVec.ofInt 64 255).toNat ≤ 255 := by
    rw [BitVec.toNat_and]
    exact Nat.and_le_right
  show 0 ≤ IntKind.i64.wrap ((BitVec.ofInt 64 x &&& BitVec.ofInt 64 255).toNat : Int) ∧ IntKind.i64.wrap ((BitVec.ofInt 64 x &&& BitVec.ofInt 64 255).toNat : Int) ≤ 255
  rw [IntWalk.i64_in _ (by omega)]
  omega
theorem tmod_in (x : Int) (n : Nat) (hn : 0 < n) : -(n : Int) < x.tmod n ∧ x.tmod n < n := by
  have h1 := Int.tmod_lt_of_pos x (show (0 : Int) < n by omega)
  have h2 := Int.lt_tmod_of_pos x (show (0 : Int) < n by omega)
  omega
theorem tmod_up (x : Int) (n : Nat) (hn : 0 < n) : 0 ≤ (x.tmod n + n).tmod n ∧ (x.tmod n + n).tmod n < n := by
  have h := tmod_in x n hn
  have h1 := Int.tmod_lt_of_pos (x.tmod n + n) (show (0 : Int) < n by omega)
  have h2 : 0 ≤ (x.tmod n + n).tmod n := Int.tmod_nonneg _ (by omega)
  exact ⟨h2, h1⟩
theorem cellB_T {n : Nat} : cellB (cellT n) = true := by
  unfold cellT
  split
  · simp [cellB]
  · unfold cellB
    have : ((tx (cellL n)).size : Int) = 40 := rfl
    rw [this]
    simp
theorem Sd.good {s : Sd} (h : s.Wf) : Good s.rcd := by
  have h1 := tmod_up s.kind 7 (by decide)
  have h2 := and255 s.txn
  have h3 := tmod_up s.page 6 (by decide)
  have h4 := tmod_up s.slot 5 (by decide)
  refine ⟨?_, ?_⟩
  · unfold Rec.right Sd.rcd
    simp only [cellB_T, Bool.true_and, Bool.and_eq_true, Bool.not_eq_true', Bool.or_eq_false_iff, decide_eq_false_iff_not]
    have hi : ((imgT s.image).toList.isEmpty || ((imgT s.image).size : Int) == 256) = true := by
      unfold imgT
      split
      · simp
      · have : ((tx (imgL s.image)).size : Int) = 256 := by
          show (((imgL s.image).toArray.size : Nat) : Int) = 256
          rw [List.size_toArray, imgL_len]
          rfl
        rw [this]
        simp
    have hd : (((s.dy).length : Int) == 0 || (s.kd == 7 && ((s.dy).length : Int) == 6)) = true := by
      unfold Sd.dy
      split
      · rename_i hk
        have : (s.dirty.take 6 ++ List.replicate (6 - s.dirty.length) 0).length = 6 := by
          rw [List.length_append, List.length_take, List.length_replicate]
          omega
        rw [this, hk.1]
        rfl
      · rfl
    refine ⟨⟨?_, hi⟩, hd⟩
    change 0 ≤ (s.kind.tmod 7 + 7).tmod 7 ∧ (s.kind.tmod 7 + 7).tmod 7 < 7 at h1
    change 0 ≤ (s.page.tmod 6 + 6).tmod 6 ∧ (s.page.tmod 6 + 6).tmod 6 < 6 at h3
    change 0 ≤ (s.slot.tmod 5 + 5).tmod 5 ∧ (s.slot.tmod 5 + 5).tmod 5 < 5 at h4
    unfold Sd.kd Sd.pg Sd.sl
    omega
  · intro d hd
    unfold Sd.rcd Sd.dy at hd
    simp only at hd
    split at hd
    · rcases List.mem_append.1 hd with h5 | h5
      · exact h.nums d (List.mem_of_mem_take h5)
      · rw [List.mem_replicate] at h5
        rw [h5.2]
        decide
    · cases hd
theorem wpList_copy_rd2 {P : Program} {ops : Array Oper} {rest : List Oper} {o : Oper} {a : Act} {Q : Exit → Act → World → Prop} {w0 w : World} {R : HP} (hgd : o.guard = none) (d s : Operand) (dT sT : TypeId)
    (ho : o.op = .call { callee := .builtin .copy, args := #[d, s], argTypes := #[dT, sT] }) (elem : TypeId) (hu : P.underlying dT = some (.slice elem)) (hsz : (P.info? elem).map (·.size) = some 1)
    (g dLen dCap : Nat) (hd : a.eval d = .slice (some ⟨g, 0, none⟩) dLen dCap) {vx : Value} (hs : a.eval s = vx) {ys xs zs : List Value} {t : TypeId} (hx : Rd w vx ys)
    (h : At w0 (cel g xs.toArray t * R) w) (hfit : dLen ≤ xs.length) (h1 : ∀ v ∈ ys, v.oneCell' = true) (hz : zs = ys.take dLen ++ xs.drop (ys.take dLen).length)
    (hK : ∀ w', At w0 (cel g zs.toArray t * R) w' → wpList P ops Q rest (a.put o.dst (goInt (ys.take dLen).length)) w') : wpList P ops Q (o :: rest) a w := by
  subst hz
  rcases hx with ⟨rfl, rfl⟩ | ⟨g2, o2, c2, rfl, hc, hr⟩
  · refine wpList_copy_nothing hgd d s dT sT ho elem hu hsz (some ⟨g, 0, none⟩) none dLen dCap 0 0 hd hs (by simp) ?_
    rw [List.take_nil] at hK
    exact hK w (by simpa using h)
  · refine wpList_copy_own hgd d s dT sT ho elem hu hsz g 0 dLen dCap ⟨g2, o2, none⟩ ys.length c2 hd hs xs.toArray t (At.blk (o := .cells xs.toArray t) h) (ys.take dLen) (by rw [List.length_take, Nat.min_comm])
      (fun j v hv => by
        rw [Addr.add_lit]
        refine hr j v ?_
        rw [List.getElem?_take] at hv
        split at hv
        · exact hv
        · cases hv) (by rw [Nat.zero_add, List.length_take, List.size_toArray]; omega) (fun v hv => h1 v (List.mem_of_mem_take hv)) ?_
    refine hK _ ?_
    have := h.setRow ((xs.toArray.toList.take 0 ++ (ys.take dLen ++ xs.toArray.toList.drop (0 + (ys.take dLen).length))).toArray)
    simpa using this
theorem nus_take (l : List Nat) (k : Nat) : (nus l).take k = nus (l.take k) := by simp [nus]
theorem nus_append (a b : List Nat) : nus (a ++ b) = nus a ++ nus b := by simp [nus]

set_option maxRecDepth 100000 in
set_option maxHeartbeats 8000000 in
theorem seedRec_any (w0 w : World) (R : HP) (s : Sd) (a : Option Addr) (c : Nat) (hs : s.Wf) (hsz : s.dirty.length ≤ 1000000) (hA : 0 < s.dirty.length → ∀ w', At w0 R w' → Rd w' (.slice a s.dirty.length c) (nus s.dirty)) (h : At w0 R w) :
    Calls Try.prog 29 #[.agg (s.cells (.slice a s.dirty.length c)).toArray] w fun e w' => ∃ a1 c1, e = .returned (.agg (s.rcd.cells (.slice a1 s.rcd.dirty.length c1)).toArray) ∧
      At w0 (row 37 1 (.slice a1 s.rcd.dirty.length c1) s.rcd.dirty.length (nus s.rcd.dirty) * R) w' := by
  obtain ⟨kind, txn, page, slot, before, after, image, dirty⟩ := s
  obtain ⟨hb, ha, hi, hn⟩ := hs
  simp only at hb ha hi hn hsz hA
  obtain ⟨B, hB⟩ : ∃ B, w.heap.size = B := ⟨_, rfl⟩
  obtain ⟨k1, hk1⟩ : ∃ k, kind.tmod 7 = k := ⟨_, rfl⟩
  obtain ⟨k2, hk2⟩ : ∃ k, (k1 + 7).tmod 7 = k := ⟨_, rfl⟩
  obtain ⟨p1, hp1⟩ : ∃ k, page.tmod 6 = k := ⟨_, rfl⟩
  obtain ⟨p2, hp2⟩ : ∃ k, (p1 + 6).tmod 6 = k := ⟨_, rfl⟩
  obtain ⟨s1, hs1⟩ : ∃ k, slot.tmod 5 = k := ⟨_, rfl⟩
  obtain ⟨s2, hs2⟩ : ∃ k, (s1 + 5).tmod 5 = k := ⟨_, rfl⟩
  obtain ⟨tx2, htx⟩ : ∃ k, bits .and .i64 txn 255 = k := ⟨_, rfl⟩
  have b1 := tmod_in kind 7 (by decide)
  have b2 := tmod_up kind 7 (by decide)
  have b3 := tmod_in page 6 (by decide)
  have b4 := tmod_up page 6 (by decide)
  have b5 := tmod_in slot 5 (by decide)
  have b6 := tmod_up slot 5 (by decide)
  change -7 < kind.tmod 7 ∧ kind.tmod 7 < 7 at b1
  change 0 ≤ (kind.tmod 7 + 7).tmod 7 ∧ (kind.tmod 7 + 7).tmod 7 < 7 at b2
  change -6 < page.tmod 6 ∧ page.tmod 6 < 6 at b3
  change 0 ≤ (page.tmod 6 + 6).tmod 6 ∧ (page.tmod 6 + 6).tmod 6 < 6 at b4
  change -5 < slot.tmod 5 ∧ slot.tmod 5 < 5 at b5
  change 0 ≤ (slot.tmod 5 + 5).tmod 5 ∧ (slot.tmod 5 + 5).tmod 5 < 5 at b6
  rw [hk1] at b1 b2
  rw [hk2] at b2
  rw [hp1] at b3 b4
  rw [hp2] at b4
  rw [hs1] at b5 b6
  rw [hs2] at b6
  obtain ⟨IT, hIT⟩ : ∃ IT, imgT image = IT := ⟨_, rfl⟩
  obtain ⟨DY, hDY⟩ : ∃ DY, (if k2 + 1 = 7 ∧ 0 < dirty.length then dirty.take 6 ++ List.replicate (6 - dirty.length) 0 else []) = DY := ⟨_, rfl⟩
  have hrec : Sd.rcd ⟨kind, txn, page, slot, before, after, image, dirty⟩ = ⟨k2 + 1, tx2, p2, s2, cellT before, cellT after, IT, DY⟩ := by
    unfold Sd.rcd Sd.dy Sd.kd Sd.pg Sd.sl
    simp only [hk1, hk2, hp1, hp2, hs1, hs2, htx, hIT, hDY]
  have HIT := hide hIT
  have HDY := hide hDY
  clear hIT hDY
  rw [hrec]
  have v1 := IntWalk.i64_in k1 (by omega)
  have v2 := IntWalk.i64_in (k1 + 7) (by omega)
  have v3 := IntWalk.i64_in k2 (by omega)
  have v4 := IntWalk.i64_in (k2 + 1) (by omega)
  have v5 := IntWalk.i64_in p1 (by omega)
  have v6 := IntWalk.i64_in (p1 + 6) (by omega)
  have v7 := IntWalk.i64_in p2 (by omega)
  have v8 := IntWalk.i64_in s1 (by omega)
  have v9 := IntWalk.i64_in (s1 + 5) (by omega)
  have v10 := IntWalk.i64_in s2 (by omega)
  have h1 := h.alloc' hB (.cells (Sd.cells ⟨kind, txn, page, slot, before, after, image, dirty⟩ (.slice a dirty.length c)).toArray 77)
  have h2 := h1.alloc' (n := B + 1) (by rw [World.size_alloc, hB]) (.cells #[.int .i64 0, .int .i64 0, .int .i64 0, .int .i64 0, .string ⟨#[]⟩, .string ⟨#[]⟩, .string ⟨#[]⟩, .slice none 0 0] 52)
  unfold Sd.cells at h1 h2 ⊢
  simp only at h1 h2 ⊢
  have HA := hide hA
  have Hn := hide hn
  clear hA hn h hrec h1
  go_enter Try.func29, Try.ntmps29
  go_upto_region 1 with fail
  generalize hW : World.alloc (World.alloc w _) _ = W at h2 ⊢
  clear hW
  refine wp_region_held_make 26 [27] (MadeS w0 (cel B #[.int .i64 kind, .int .i64 txn, .int .i64 page, .int .i64 slot, .int .u8 before, .int .u8 after, .int .u8 image, .slice a dirty.length c] 77 * (cel (B + 1) #[.int .i64 0, .int .i64 0, .int .i64 0, .int .i64 0, .string ⟨#[]⟩, .string ⟨#[]⟩, .string ⟨#[]⟩, .slice none 0 0] 52 * R)) (List.toArray [.int .i64 0, .int .i64 0, .int .i64 0, .int .i64 0, .string ⟨#[]⟩, .string ⟨#[]⟩, .string ⟨#[]⟩, .slice none 0 0]) 52) rfl (by kernel_rfl) h2.drew.pull2 rfl (makes_alloc' rfl rfl Try.zeroRec) ?_
  simp only [List.take_succ_cons, List.take_zero]
  refine g_read (.pointer (some ⟨B, 0, none⟩)) rfl (fun b w' hw => by go_simp) ?_
  refine g_read (.int .i64 kind) rfl (fun b w' hw => ?_) ?_
  · have qq : w'.cell? ⟨B, 0, none⟩ = some (.int .i64 kind) := At.cell hw.at rfl
    go_simp
  refine g_read (.int .i64 k1) rfl (fun b w' hw => by go_simp) ?_
  refine g_read (.int .i64 (k1 + 7)) rfl (fun b w' hw => by go_simp) ?_
  refine g_read (.int .i64 k2) rfl (fun b w' hw => by go_simp) ?_
  refine g_read (.int .i64 (k2 + 1)) rfl (fun b w' hw => by go_simp) ?_
  refine g_read (.pointer (some ⟨B, 1, none⟩)) rfl (fun b w' hw => by go_simp) ?_
  refine g_read (.int .i64 txn) rfl (fun b w' hw => ?_) ?_
  · have qq : w'.cell? ⟨B, 1, none⟩ = some (.int .i64 txn) := At.cell hw.at rfl
    go_simp
  refine g_read (.int .i64 tx2) rfl (fun b w' hw => by go_simp) ?_
  refine g_read (.pointer (some ⟨B, 2, none⟩)) rfl (fun b w' hw => by go_simp) ?_
  refine g_read (.int .i64 page) rfl (fun b w' hw => ?_) ?_
  · have qq : w'.cell? ⟨B, 2, none⟩ = some (.int .i64 page) := At.cell hw.at rfl
    go_simp
  refine g_read (.int .i64 p1) rfl (fun b w' hw => by go_simp) ?_
  refine g_read (.int .i64 (p1 + 6)) rfl (fun b w' hw => by go_simp) ?_
  refine g_read (.int .i64 p2) rfl (fun b w' hw => by go_simp) ?_
  refine g_read (.pointer (some ⟨B, 3, none⟩)) rfl (fun b w' hw => by go_simp) ?_
  refine g_read (.int .i64 slot) rfl (fun b w' hw => ?_) ?_
  · have qq : w'.cell? ⟨B, 3, none⟩ = some (.int .i64 slot) := At.cell hw.at rfl
    go_simp
  refine g_read (.int .i64 s1) rfl (fun b w' hw => by go_simp) ?_
  refine g_read (.int .i64 (s1 + 5)) rfl (fun b w' hw => by go_simp) ?_
  refine g_read (.int .i64 s2) rfl (fun b w' hw => by go_simp) ?_
  refine g_read (.pointer (some ⟨B, 4, none⟩)) rfl (fun b w' hw => by go_simp) ?_
  refine g_read (.int .u8 before) rfl (fun b w' hw => ?_) ?_
  · have qq : w'.cell? ⟨B, 4, none⟩ = some (.int .u8 before) := At.cell hw.at rfl
    go_simp
  refine g_call (.string (cellT before)) 54 #[.int .u8 before] rfl (fun w' => by go_simp) (MadeS.call fun X w' hw => seedCell_any w0 w' _ before hb hw) ?_
  refine g_read (.pointer (some ⟨B, 5, none⟩)) rfl (fun b w' hw => by go_simp) ?_
  refine g_read (.int .u8 after) rfl (fun b w' hw => ?_) ?_
  · have qq : w'.cell? ⟨B, 5, none⟩ = some (.int .u8 after) := At.cell hw.at rfl
    go_simp
  refine g_call (.string (cellT after)) 54 #[.int .u8 after] rfl (fun w' => by go_simp) (MadeS.call fun X w' hw => seedCell_any w0 w' _ after ha hw) ?_
  refine g_read (.agg #[.int .i64 (k2 + 1), .int .i64 tx2, .int .i64 p2, .int .i64 s2, .string (cellT before), .string (cellT after), .string ⟨#[]⟩, .slice none 0 0]) rfl (fun b w' hw => by go_simp) ?_
  refine g_skip fun v w3 h3 => ?_
  obtain ⟨X, rfl, h3⟩ := h3
  simp only [picks_cons, picks_nil, getD_zero, getD_succ]
  refine wpList_store_at rfl (.tmp 3) (.tmp 30) _ rfl (g := X) (c := List.toArray [.int .i64 0, .int .i64 0, .int .i64 0, .int .i64 0, .string ⟨#[]⟩, .string ⟨#[]⟩, .string ⟨#[]⟩, .slice none 0 0]) (ys := [.int .i64 (k2 + 1), .int .i64 tx2, .int .i64 p2, .int .i64 s2, .string (cellT before), .string (cellT after), .string ⟨#[]⟩, .slice none 0 0]) (by go_simp) (by go_simp) (by kernel_rfl) rfl (RecV.one (⟨k2 + 1, tx2, p2, s2, cellT before, cellT after, ⟨#[]⟩, []⟩, none, 0)) h3 ?_
  intro w4 h4
  go_wp2_with fail
  refine ⟨by kernel_rfl, ?_⟩
  have q6 : w4.cell? ⟨B, 6, none⟩ = some (.int .u8 image) := At.cell h4.pull2 rfl
  clear h2 h3
  go_upto_if 33 with fail
  go_cut [4] (fun _ wc => ∃ F : HP, At w0 (cel X #[.int .i64 (k2 + 1), .int .i64 tx2, .int .i64 p2, .int .i64 s2, .string (cellT before), .string (cellT after), .string IT, .slice none 0 0] 52 * (cel B #[.int .i64 kind, .int .i64 txn, .int .i64 page, .int .i64 slot, .int .u8 before, .int .u8 after, .int .u8 image, .slice a dirty.length c] 77 * (cel (B + 1) #[.int .i64 0, .int .i64 0, .int .i64 0, .int .i64 0, .string ⟨#[]⟩, .string ⟨#[]⟩, .string ⟨#[]⟩, .slice none 0 0] 52 * (F * R)))) wc)
  case first =>
    by_cases h0 : image = 0
    · subst h0
      have hI : IT = ⟨#[]⟩ := HIT.out.symm
      go_wp2_with fail
      go_meet
      refine ⟨1, ?_⟩
      rw [HP.one_mul, hI]
      exact h4
    · have hnz : 0 < (image : Int) := by omega
      have hmk := Try.made256 w4
      obtain ⟨N, hN⟩ : ∃ N, w4.heap.size = N := ⟨_, rfl⟩
      obtain ⟨zs, hzs⟩ : ∃ zs, bys (zbys 256) = zs := ⟨_, rfl⟩
      rw [hN, hzs] at hmk
      have hzl : zs.length = 256 := by rw [← hzs, bys_len, zbys_len]
      have h5u := (h4.alloc' hN (.cells zs.toArray 5)).row_new (m := 256) hzl.symm (by rw [hzl]; decide)
      have h6 := ((h5u.row_set 3 (.int .u8 image)).row_set' 200 (.int .u8 image) (ys := bys (imgL image)) (by
        rw [← hzs, ← byv_ofNat hi]
        rfl)).drew
      have r6s : ((w4.alloc (.cells zs.toArray 5)).setCell ⟨N, 3, none⟩ (.int .u8 image)).drew.cell? ⟨B, 6, none⟩ = some (.int .u8 image) := At.cell (h5u.row_set 3 (.int .u8 image)).drew.pull3 rfl
      have r6t : (((w4.alloc (.cells zs.toArray 5)).setCell ⟨N, 3, none⟩ (.int .u8 image)).setCell ⟨N, 200, none⟩ (.int .u8 image)).drew.cell? ⟨B, 6, none⟩ = some (.int .u8 image) := At.cell h6.pull3 rfl
      have hBN : B ≠ N := At.row_ne h5u.pull3
      have c3 : (w4.alloc (.cells zs.toArray 5)).cell? ⟨N, 3, none⟩ = some (.int .u8 0) := (h5u.row_cell rfl (by rw [← hzs]; rfl)).2
      have c200 : (w4.alloc (.cells zs.toArray 5)).cell? ⟨N, 200, none⟩ = some (.int .u8 0) := (h5u.row_cell rfl (by rw [← hzs]; rfl)).2
      have f3 := h5u.row_fz 3
      have f200 := h5u.row_fz 200
      have lt := h5u.row_lt
      have r6 : (w4.alloc (.cells zs.toArray 5)).cell? ⟨B, 6, none⟩ = some (.int .u8 image) := At.cell h5u.pull3 rfl
      have hcv := run_txt (P := Try.prog) 32 5 9 Try.underlying32 Try.underlying5 Try.underlying9 h6.rd
      have h7 := h6.pull2
      have y6 := At.cell (i := 6) (v := .string ⟨#[]⟩) h7 rfl
      have y6f := At.frz h7 6
      have y6l := At.lt h7
      have he : (⟨(imgL image).toArray⟩ : ByteArray) = IT := by rw [← HIT.out]; unfold imgT; rw [if_neg h0]; rfl
      unfold str at hcv
      rw [he] at hcv
      clear h4 h5u h6 hN hzs hzl he h0
      go_upto_region 4 with fail
      clear hmk q6
      generalize w4.alloc _ = W5 at *
      have r6d : W5.drew.cell? ⟨B, 6, none⟩ = some (.int .u8 image) := r6
      go_region_held3 (fun w' => w'.cell? ⟨B, 6, none⟩ = some (.int .u8 image)) (first | exact r6d | exact r6s | exact r6t) (first | fail)
      generalize World.drew (World.setCell (World.setCell W5 _ _) _ _) = W6 at *
      go_wp2_with fail
      go_meet
      refine ⟨row 5 1 (.slice (some ⟨N, 0, none⟩) 256 256) 256 (bys (imgL image)), ?_⟩
      have h8 := h7.set' (d := #[.int .i64 (k2 + 1), .int .i64 tx2, .int .i64 p2, .int .i64 s2, .string (cellT before), .string (cellT after), .string IT, .slice none 0 0]) 6 (.string IT) rfl
      exact h8.cast (by ac_rfl)
  case rest =>
    obtain ⟨F, h5⟩ := hcut
    clear h4 q6
    have x0 : wc.cell? ⟨X, 0, none⟩ = some (.int .i64 (k2 + 1)) := At.cell h5 rfl
    have q7 : wc.cell? ⟨B, 7, none⟩ = some (.slice a dirty.length c) := At.cell h5.pull2 rfl
    by_cases hk : k2 + 1 = 7 ∧ 0 < dirty.length
    · obtain ⟨hk7, hdl⟩ := hk
      have hDY : nus DY = ((nus dirty).take 6 ++ (nus (List.replicate 6 0)).drop ((nus dirty).take 6).length) ∧ DY.length = 6 := by
        rw [← HDY.out, if_pos ⟨hk7, hdl⟩]
        refine ⟨?_, ?_⟩
        · rw [nus_append, nus_take]
          congr 1
          rw [nus_len, List.length_take]
          simp only [nus, List.map_replicate, List.drop_replicate]
          congr 1
          omega
        · rw [List.length_append, List.length_take, List.length_replicate]
          omega
      obtain ⟨hD1, hD2⟩ := hDY
      rw [hk7] at h5 x0
      have hmk := Try.made6 wc
      obtain ⟨M, hM⟩ : ∃ M, wc.heap.size = M := ⟨_, rfl⟩
      obtain ⟨zs, hzs⟩ : ∃ zs, nus (List.replicate 6 0) = zs := ⟨_, rfl⟩
      rw [hM, hzs] at hmk
      rw [hzs] at hD1
      have hzl : zs.length = 6 := by rw [← hzs, nus_len]; rfl
      have h6 := h5.alloc' hM (.cells zs.toArray 37)
      have y7 := At.cell (i := 7) (v := .slice none 0 0) h6.pull2 rfl
      have y7f := At.frz h6.pull2 7
      have y7l := At.lt h6.pull2
      have h7 := (h6.pull2.set' (d := #[.int .i64 7, .int .i64 tx2, .int .i64 p2, .int .i64 s2, .string (cellT before), .string (cellT after), .string IT, .slice (some ⟨M, 0, none⟩) 6 6]) 7 (.slice (some ⟨M, 0, none⟩) 6 6) rfl).pull2
      have hdz : 0 < (dirty.length : Int) := by omega
      have HD1 := hide hD1
      have HD2 := hide hD2
      clear h5 hM hzs hD1 hD2 h6
      go_upto_region 8 with fail
      generalize World.setCell (World.alloc wc _) _ _ = W7 at *
      have y7' : W7.cell? ⟨X, 7, none⟩ = some (.slice (some ⟨M, 0, none⟩) 6 6) := At.cell h7.pull2 rfl
      have q7' : W7.cell? ⟨B, 7, none⟩ = some (.slice a dirty.length c) := At.cell h7.pull3 rfl
      refine wp_region_lit ?_
      refine wpList_value rfl (v := .pointer (some ⟨X, 7, none⟩)) (by go_simp) ?_
      refine wpList_value rfl (v := .slice (some ⟨M, 0, none⟩) 6 6) (by go_simp) ?_
      refine wpList_value rfl (v := .pointer (some ⟨B, 7, none⟩)) (by go_simp) ?_
      refine wpList_value rfl (v := .slice a dirty.length c) (by go_simp) ?_
      refine wpList_copy_rd2 rfl (.tmp 58) (.tmp 60) 50 50 rfl 37 Try.underlying50 (by kernel_rfl) M 6 6 (by go_simp) (by go_simp) (HA.out hdl _ h7.r.r.r.r.r) h7 (by omega) (nus_one _) HD1.out ?_
      intro w8 h8
      have h8 := h8.pull2
      clear h7 y7 y7f y7l q7 x0 y7' q7' hmk
      go_upto_region 9 with fail
      refine wp_region_lit ?_
      refine wpList_load_agg rfl (.tmp 3) 52 rfl _ Try.underlying52 rfl (ys := [.int .i64 7, .int .i64 tx2, .int .i64 p2, .int .i64 s2, .string (cellT before), .string (cellT after), .string IT, .slice (some ⟨M, 0, none⟩) 6 6]) (by kernel_rfl) (g := X) (off := 0) (by go_simp) (fun j u hu => by rw [Nat.zero_add]; exact At.cell h8 (by simpa using hu)) ?_
      refine wpList_store_at rfl (.tmp 2) (.tmp 62) _ rfl (g := B + 1) (c := List.toArray [.int .i64 0, .int .i64 0, .int .i64 0, .int .i64 0, .string ⟨#[]⟩, .string ⟨#[]⟩, .string ⟨#[]⟩, .slice none 0 0]) (ys := [.int .i64 7, .int .i64 tx2, .int .i64 p2, .int .i64 s2, .string (cellT before), .string (cellT after), .string IT, .slice (some ⟨M, 0, none⟩) 6 6]) (by go_simp) (by go_simp) (by kernel_rfl) rfl (RecV.one (⟨7, tx2, p2, s2, cellT before, cellT after, IT, [0, 0, 0, 0, 0, 0]⟩, some ⟨M, 0, none⟩, 6)) h8.pull4 ?_
      intro w9 h9
      have z0 : w9.cell? ⟨B + 1, 0, none⟩ = some (.int .i64 7) := At.cell h9 rfl
      have z1 : w9.cell? ⟨B + 1, 1, none⟩ = some (.int .i64 tx2) := At.cell h9 rfl
      have z2 : w9.cell? ⟨B + 1, 2, none⟩ = some (.int .i64 p2) := At.cell h9 rfl
      have z3 : w9.cell? ⟨B + 1, 3, none⟩ = some (.int .i64 s2) := At.cell h9 rfl
      have z4 : w9.cell? ⟨B + 1, 4, none⟩ = some (.string (cellT before)) := At.cell h9 rfl
      have z5 : w9.cell? ⟨B + 1, 5, none⟩ = some (.string (cellT after)) := At.cell h9 rfl
      have z6 : w9.cell? ⟨B + 1, 6, none⟩ = some (.string IT) := At.cell h9 rfl
      have z7 : w9.cell? ⟨B + 1, 7, none⟩ = some (.slice (some ⟨M, 0, none⟩) 6 6) := At.cell h9 rfl
      clear h8
      go_wp2_with fail
      refine bodyPost_ret (v := .agg #[.int .i64 7, .int .i64 tx2, .int .i64 p2, .int .i64 s2, .string (cellT before), .string (cellT after), .string IT, .slice (some ⟨M, 0, none⟩) 6 6]) (by simp [results, Try.results29, go_sem, z0, z1, z2, z3, z4, z5, z6, z7]) rfl ?_
      rw [HD2.out]
      refine ⟨some ⟨M, 0, none⟩, 6, by rw [hk7]; rfl, ?_⟩
      have h10 := h9.pull3
      have hl : (nus DY).length = 6 := by rw [nus_len]; exact HD2.out
      exact h10.drop2.drop2.drop2.drop2.row_new hl.symm (by rw [hl]; decide)
    · have hrec : DY = [] := by rw [← HDY.out]; exact if_neg hk
      subst hrec
      by_cases hk7 : k2 + 1 = 7
      · have hdz : ¬ (0 < (dirty.length : Int)) := by
          intro h
          exact hk ⟨hk7, by omega⟩
        rw [hk7] at h5 x0
        clear hk
        go_upto_region 9 with fail
        refine wp_region_lit ?_
        refine wpList_load_agg rfl (.tmp 3) 52 rfl _ Try.underlying52 rfl (ys := [.int .i64 7, .int .i64 tx2, .int .i64 p2, .int .i64 s2, .string (cellT before), .string (cellT after), .string IT, .slice none 0 0]) (by kernel_rfl) (g := X) (off := 0) (by go_simp) (fun j u hu => by rw [Nat.zero_add]; exact At.cell h5 (by simpa using hu)) ?_
        refine wpList_store_at rfl (.tmp 2) (.tmp 62) _ rfl (g := B + 1) (c := List.toArray [.int .i64 0, .int .i64 0, .int .i64 0, .int .i64 0, .string ⟨#[]⟩, .string ⟨#[]⟩, .string ⟨#[]⟩, .slice none 0 0]) (ys := [.int .i64 7, .int .i64 tx2, .int .i64 p2, .int .i64 s2, .string (cellT before), .string (cellT after), .string IT, .slice none 0 0]) (by go_simp) (by go_simp) (by kernel_rfl) rfl (RecV.one (⟨7, tx2, p2, s2, cellT before, cellT after, IT, []⟩, none, 0)) h5.pull3 ?_
        intro w9 h9
        have z0 : w9.cell? ⟨B + 1, 0, none⟩ = some (.int .i64 7) := At.cell h9 rfl
        have z1 : w9.cell? ⟨B + 1, 1, none⟩ = some (.int .i64 tx2) := At.cell h9 rfl
        have z2 : w9.cell? ⟨B + 1, 2, none⟩ = some (.int .i64 p2) := At.cell h9 rfl
        have z3 : w9.cell? ⟨B + 1, 3, none⟩ = some (.int .i64 s2) := At.cell h9 rfl
        have z4 : w9.cell? ⟨B + 1, 4, none⟩ = some (.string (cellT before)) := At.cell h9 rfl
        have z5 : w9.cell? ⟨B + 1, 5, none⟩ = some (.string (cellT after)) := At.cell h9 rfl
        have z6 : w9.cell? ⟨B + 1, 6, none⟩ = some (.string IT) := At.cell h9 rfl
        have z7 : w9.cell? ⟨B + 1, 7, none⟩ = some (.slice none 0 0) := At.cell h9 rfl
        clear h5
        go_wp2_with fail
        refine bodyPost_ret (v := .agg #[.int .i64 7, .int .i64 tx2, .int .i64 p2, .int .i64 s2, .string (cellT before), .string (cellT after), .string IT, .slice none 0 0]) (by simp [results, Try.results29, go_sem, z0, z1, z2, z3, z4, z5, z6, z7]) rfl ?_
        exact ⟨none, 0, rfl, h9.r.r.r.r.row_nil 37 1⟩
      · clear hk
        go_upto_region 9 with fail
        refine wp_region_lit ?_
        refine wpList_load_agg rfl (.tmp 3) 52 rfl _ Try.underlying52 rfl (ys := [.int .i64 (k2 + 1), .int .i64 tx2, .int .i64 p2, .int .i64 s2, .string (cellT before), .string (cellT after), .string IT, .slice none 0 0]) (by kernel_rfl) (g := X) (off := 0) (by go_simp) (fun j u hu => by rw [Nat.zero_add]; exact At.cell h5 (by simpa using hu)) ?_
        refine wpList_store_at rfl (.tmp 2) (.tmp 62) _ rfl (g := B + 1) (c := List.toArray [.int .i64 0, .int .i64 0, .int .i64 0, .int .i64 0, .string ⟨#[]⟩, .string ⟨#[]⟩, .string ⟨#[]⟩, .slice none 0 0]) (ys := [.int .i64 (k2 + 1), .int .i64 tx2, .int .i64 p2, .int .i64 s2, .string (cellT before), .string (cellT after), .string IT, .slice none 0 0]) (by go_simp) (by go_simp) (by kernel_rfl) rfl (RecV.one (⟨(k2 + 1), tx2, p2, s2, cellT before, cellT after, IT, []⟩, none, 0)) h5.pull3 ?_
        intro w9 h9
        have z0 : w9.cell? ⟨B + 1, 0, none⟩ = some (.int .i64 (k2 + 1)) := At.cell h9 rfl
        have z1 : w9.cell? ⟨B + 1, 1, none⟩ = some (.int .i64 tx2) := At.cell h9 rfl
        have z2 : w9.cell? ⟨B + 1, 2, none⟩ = some (.int .i64 p2) := At.cell h9 rfl
        have z3 : w9.cell? ⟨B + 1, 3, none⟩ = some (.int .i64 s2) := At.cell h9 rfl
        have z4 : w9.cell? ⟨B + 1, 4, none⟩ = some (.string (cellT before)) := At.cell h9 rfl
        have z5 : w9.cell? ⟨B + 1, 5, none⟩ = some (.string (cellT after)) := At.cell h9 rfl
        have z6 : w9.cell? ⟨B + 1, 6, none⟩ = some (.string IT) := At.cell h9 rfl
        have z7 : w9.cell? ⟨B + 1, 7, none⟩ = some (.slice none 0 0) := At.cell h9 rfl
        clear h5
        go_wp2_with fail
        refine bodyPost_ret (v := .agg #[.int .i64 (k2 + 1), .int .i64 tx2, .int .i64 p2, .int .i64 s2, .string (cellT before), .string (cellT after), .string IT, .slice none 0 0]) (by simp [results, Try.results29, go_sem, z0, z1, z2, z3, z4, z5, z6, z7]) rfl ?_
        exact ⟨none, 0, rfl, h9.r.r.r.r.row_nil 37 1⟩
end Go.Proofs.Ytmlifjfgelfbbaa
