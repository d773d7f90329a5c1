/-
  What a map of rows comes to in order: a contract, no statement.
-/
import Derived.Test.YtghlbhnpgbhllaaMi
namespace Go.Proofs.Ytghlbhnpgbhllaa
open Go Go.RowKit Go.Maps

section
variable {w0 w w' : World} {R : HP} {b r n cnt : Nat} {L ls : List It}
/-- A range over a map of rows, of which ls have come. -/
def rgi (b r n : Nat) (L ls : List It) (cnt : Nat) : HP :=
  hex fun ob => hex fun oc => fact (∀ w : World, w.heap[b]? = some ob → w.heap[r]? = some oc → ∃ D left, w.ranges Try.prog 9 itR b r n D left cnt ∧ Rep D L ∧ ∀ x ∈ L, (left (kL x) = true ↔ x ∉ ls)) * (pt b ob * pt r oc)
theorem At.rgi_of {ob oc : Obj} {D : DataW Unit} {left : Lit → Bool} (h : At w0 (pt b ob * (pt r oc * R)) w) (ho : w.ranges Try.prog 9 itR b r n D left cnt) (hr : Rep D L) (hl : ∀ x ∈ L, (left (kL x) = true ↔ x ∉ ls)) : At w0 (rgi b r n L ls cnt * R) w := by
  refine At.mkex ob (At.mkex oc (At.assoc' (At.mkfact ?_ h.assoc')))
  intro w2 h2 h3
  obtain ⟨es, clock, since, seen, c0, hb, F, hs, hD, hi, rest⟩ := ho
  rw [h.blk] at hb
  rw [h.pull2.blk] at hi
  cases hb
  cases hi
  exact ⟨D, left, ⟨es, clock, since, seen, c0, h2, F, hs, hD, h3, rest⟩, hr, hl⟩
theorem At.rgi_own (h : At w0 (rgi b r n L ls cnt * R) w) : ∃ D left, w.ranges Try.prog 9 itR b r n D left cnt ∧ Rep D L ∧ ∀ x ∈ L, (left (kL x) = true ↔ x ∉ ls) := by
  obtain ⟨ob, h⟩ := h.exl
  obtain ⟨oc, h⟩ := h.exl
  obtain ⟨hp, h'⟩ := h.assoc.factl
  exact hp w h'.assoc.blk h'.assoc.pull2.blk
theorem At.rgi_left (h : At w0 (rgi b r n L ls cnt * R) w) : w.rangeLeft b r = cnt := by
  obtain ⟨D, left, hr, _⟩ := h.rgi_own
  exact hr.left_eq
theorem At.rgi_next {D : DataW Unit} {left : Lit → Bool} {cnt' : Nat} {ls' : List It} (h : At w0 (rgi b r n L ls cnt * R) w) (hg : w.grownBy w' (some r)) (ho : w'.ranges Try.prog 9 itR b r n D left cnt') (hr : Rep D L) (hl : ∀ x ∈ L, (left (kL x) = true ↔ x ∉ ls')) : At w0 (rgi b r n L ls' cnt' * R) w' := by
  obtain ⟨ob, h⟩ := h.exl
  obtain ⟨oc, h⟩ := h.exl
  obtain ⟨_, h'⟩ := h.assoc.factl
  have h2 := h'.assoc.pull2
  have ho2 := ho
  obtain ⟨es, clock, since, seen, c0, hb, F, hs, hD, hi, rest⟩ := ho2
  refine At.rgi_of (At.upd h2 hg.os hg.tape hg.output hi fun i x hi hx => ?_).pull2 ho hr hl
  exact (hg.block i (Array.getElem?_eq_some_iff.1 hx).1 (by simpa using hi)).trans hx
/-- The range is over: the map is as it was. -/
theorem At.rgi_done (h : At w0 (rgi b r n L ls cnt * R) w) : At w0 (mpi b n L * R) w := by
  obtain ⟨D, left, hr, hrep, _⟩ := h.rgi_own
  obtain ⟨ob, h⟩ := h.exl
  obtain ⟨oc, h⟩ := h.exl
  obtain ⟨_, h'⟩ := h.assoc.factl
  exact At.mpi_of (h'.assoc.pull2.r) hr.owns hrep
end

theorem keyOf_str_inv {key : Value} {kl : Lit} (h : keyOf Try.prog 9 key = some kl) : ∃ s : ByteArray, key = .string s := by
  cases key <;> simp [keyOf, Try.underlying9, mapKey] at h
  exact ⟨_, rfl⟩

theorem wpList_next_rgi {w0 w : World} {R : HP} {b r n cnt : Nat} {L ls : List It} {ops : Array Oper} {rest : List Oper} {o : Oper} {a : Act} {Q : Exit → Act → World → Prop} (hg : o.guard = none) (it : Operand) (hop : o.op = Op.next it false)
    (hit : a.eval it = .pointer (some ⟨r, 0, none⟩)) (h : At w0 (rgi b r n L ls cnt * R) w) (hs : Sorted L) (hL : ∀ x ∈ L, InR x)
    (hDone : (∀ x ∈ L, x ∈ ls) → wpList Try.prog ops Q rest (a.put o.dst (.tuple #[.bool false])) w)
    (hMore : ∀ (x : ByteArray) (c : It) (w' : World) (cnt' : Nat), c ∈ L → c ∉ ls → At w0 (rgi b r n L (put ls c) cnt' * R) w' → cnt' < cnt →
      (Instr.entry (.pointer (some ⟨r, 0, none⟩))).run Try.prog w' = .ok (.tuple #[.string x, .agg #[.int .i64 c.t, .string c.k, .string c.v, .int .i64 c.p, .int .i64 c.s]]) w' →
      wpList Try.prog ops Q rest (a.put o.dst (.tuple #[.bool true, .string x, .agg #[.int .i64 c.t, .string c.k, .string c.v, .int .i64 c.p, .int .i64 c.s]])) w') :
    wpList Try.prog ops Q (o :: rest) a w := by
  obtain ⟨D, left, hr, hrep, hl⟩ := h.rgi_own
  refine wpList_next_ranges w hg it hop 9 kK itR (fun x : ByteArray => Value.string x) (fun c : It => c.agg) (fun key kl h => keyOf_str_inv h) (fun v y h => ?_) b r n D left cnt hit hr (fun _ hd => ?_) ?_
  · obtain ⟨i, hi, _⟩ := itR_inv h
    exact ⟨i, hi⟩
  · refine hDone fun x hx => ?_
    by_cases hm : x ∈ ls
    · exact hm
    · have := (hl x hx).2 hm
      rw [hd] at this; cases this
  · intro x c kl y w' cnt' hkey hlx hRv hat hrg hlt hgr hsz hen
    obtain ⟨i, hi, hy⟩ := itR_inv hRv
    have hci : c = i := by
      have h1 := itR_mk c
      rw [hi] at h1
      have h2 := itR_mk i
      rw [h1] at h2
      exact itM_inj (congrArg (·.1) (Option.some.inj h2))
    subst hci
    have hmem : c ∈ L ∧ kl = kL c := by
      by_cases hq : ∃ q ∈ L, kl = kL q
      · obtain ⟨q, hq, rfl⟩ := hq
        have h1 := hrep.at_ q hq (.lit (.bool true))
        rw [hat, hy] at h1
        have : c = q := itM_inj h1
        subst this
        exact ⟨hq, rfl⟩
      · exfalso
        have h1 := hrep.none_ kl (.lit (.bool true)) (fun q hq' e => hq ⟨q, hq', e⟩)
        have h2 := hrep.none_ kl (.lit (.bool false)) (fun q hq' e => hq ⟨q, hq', e⟩)
        rw [hat] at h1 h2
        rw [h1] at h2
        cases h2
    obtain ⟨hcL, rfl⟩ := hmem
    have hcn : c ∉ ls := (hl c hcL).1 hlx
    refine hMore x c w' cnt' hcL hcn (h.rgi_next hgr hrg hrep fun q hq => ?_) hlt hen
    have hk : (kL q).sameKey (kL c) = true ↔ q = c := by
      constructor
      · intro e
        exact sorted_key hs hq hcL ((kL_eq (hL q hq) (hL c hcL)).1 (WideAt.sameKey_eq e))
      · rintro rfl
        simp [kL, Lit.sameKey]
    rw [Bool.and_eq_true, Bool.not_eq_true', hl q hq, mem_put]
    constructor
    · rintro ⟨h1, h2⟩ (rfl | ⟨h3, _⟩)
      · rw [hk.2 rfl] at h2; cases h2
      · exact h1 h3
    · intro h1
      refine ⟨fun h2 => h1 ?_, ?_⟩
      · by_cases he : q = c
        · exact .inl he
        · refine .inr ⟨h2, ?_⟩
          rw [Bool.eq_false_iff]
          exact fun h3 => he (sorted_key hs hq hcL h3)
      · rw [Bool.eq_false_iff]
        exact fun h2 => h1 (.inl (hk.1 h2))

/-- A list with one more, on its way to its place. -/
def way (ls : List It) (c : It) (q : Nat) : List It := ls.take q ++ c :: ls.drop q
theorem way_len {ls : List It} {c : It} {q : Nat} (hq : q ≤ ls.length) : (way ls c q).length = ls.length + 1 := by simp [way]; omega
theorem way_at {ls : List It} {c : It} {q : Nat} (hq : q ≤ ls.length) : ∃ h : q < (way ls c q).length, (way ls c q)[q] = c := by
  refine ⟨by rw [way_len hq]; omega, ?_⟩
  unfold way
  rw [List.getElem_append_right (by simp; omega)]
  simp [Nat.min_eq_left hq]
theorem way_before {ls : List It} {c : It} {q : Nat} (hq : q + 1 ≤ ls.length) : ∃ h : q < (way ls c (q + 1)).length, (way ls c (q + 1))[q] = ls[q] := by
  refine ⟨by rw [way_len hq]; omega, ?_⟩
  unfold way
  rw [List.getElem_append_left (by simp; omega)]
  simp
theorem way_swap {ls : List It} {c : It} {q : Nat} (hq : q + 1 ≤ ls.length) : ((way ls c (q + 1)).set (q + 1) ls[q]).set q c = way ls c q := by
  unfold way
  have h1 : (ls.take (q + 1)).length = q + 1 := by simp; omega
  have h2 : (ls.take q).length = q := by simp; omega
  have e1 : ls.take (q + 1) = ls.take q ++ [ls[q]] := by rw [List.take_succ_eq_append_getElem (by omega)]
  have e2 : ls.drop q = ls[q] :: ls.drop (q + 1) := List.drop_eq_getElem_cons (by omega)
  rw [e1, e2]
  generalize ls.take q = A at *
  generalize ls.drop (q + 1) = B at *
  generalize ls[q] = p at *
  subst h2
  simp
theorem way_put {ls : List It} {c : It} {q : Nat} (h1 : ∀ x ∈ ls.take q, ltB x.t x.k c.t c.k = true) (h2 : ∀ x ∈ ls.drop q, ltB c.t c.k x.t x.k = true) : way ls c q = put ls c := by
  unfold way put
  rw [lows_eq h1 (fun x hx => ltB_asymm (h2 x hx))]
  congr 2
  unfold highs
  conv => rhs; rw [← List.take_append_drop q ls]
  rw [List.filter_append, List.filter_eq_nil_iff.2 (fun x hx => by rw [ltB_asymm (h1 x hx)]; simp), List.filter_eq_self.2 h2]
  rfl

theorem sub_len {ls L : List It} (h : Sorted ls) (hL : Sorted L) (hsub : ∀ x ∈ ls, x ∈ L) : ls.length ≤ L.length := by
  have e : ls = L.filter fun x => has ls x.t x.k := sorted_ext h (hL.filter _) fun x => by
    rw [List.mem_filter, has_iff]
    constructor
    · intro hx
      exact ⟨hsub x hx, x, hx, eqB_iff.2 ⟨rfl, rfl⟩⟩
    · rintro ⟨hx, y, hy, he⟩
      rw [← sorted_key hL (hsub y hy) hx he]
      exact hy
  have := List.length_filter_le (fun x => has ls x.t x.k) L
  rw [← e] at this
  exact this
theorem put_len_new {ls L : List It} {c : It} (h : Sorted ls) (hL : Sorted L) (hsub : ∀ x ∈ ls, x ∈ L) (hc : c ∈ L) (hn : c ∉ ls) : (put ls c).length = ls.length + 1 ∧ (∀ x ∈ put ls c, x ∈ L) ∧ ls.length + 1 ≤ L.length := by
  have h0 : has ls c.t c.k = false := by
    rw [Bool.eq_false_iff]
    intro hh
    obtain ⟨x, hx, he⟩ := has_iff.1 hh
    rw [← sorted_key hL (hsub x hx) hc he] at hn
    exact hn hx
  have h1 : (put ls c).length = ls.length + 1 := by rw [len_put h, h0]; rfl
  have h2 : ∀ x ∈ put ls c, x ∈ L := fun x hx => by
    rcases mem_put.1 hx with rfl | ⟨hx, _⟩
    · exact hc
    · exact hsub x hx
  refine ⟨h1, h2, ?_⟩
  rw [← h1]
  exact sub_len (sorted_put h c) hL h2
theorem way_done {ls L : List It} {c : It} {q : Nat} (h : Sorted ls) (hL : Sorted L) (hsub : ∀ x ∈ ls, x ∈ L) (hc : c ∈ L) (hn : c ∉ ls) (hq : q + 1 ≤ ls.length) (hlt : ltB c.t c.k ls[q].t ls[q].k = false) (hd : ∀ x ∈ ls.drop (q + 1), ltB c.t c.k x.t x.k = true) : way ls c (q + 1) = put ls c := by
  refine way_put (fun x hx => ?_) hd
  have hP : ltB ls[q].t ls[q].k c.t c.k = true := by
    rcases ltB_tri ls[q].t ls[q].k c.t c.k with h1 | h1 | h1
    · exact h1
    · exfalso
      have := sorted_key hL (hsub _ (List.getElem_mem (by omega))) hc h1
      rw [← this] at hn
      exact hn (List.getElem_mem _)
    · rw [hlt] at h1; cases h1
  obtain ⟨j, hj, rfl⟩ := List.getElem_of_mem hx
  rw [List.length_take] at hj
  rw [List.getElem_take]
  rcases Nat.lt_or_ge j q with h1 | h1
  · exact ltB_trans (List.pairwise_iff_getElem.1 h j q (by omega) (by omega) h1) hP
  · obtain rfl : j = q := by omega
    exact hP

set_option maxRecDepth 100000 in
set_option maxHeartbeats 8000000 in
theorem sorted_any (w0 w : World) (R : HP) (b n : Nat) (L : List It) (hs : Sorted L) (hL : ∀ x ∈ L, InR x) (hl : L.length ≤ 500) (h : At w0 (mpi b n L * R) w) :
    Calls Try.prog 15 #[.map (some b)] w fun e w' => ∃ a cp, e = .returned (.slice a L.length cp) ∧ At w0 (row 31 5 (.slice a L.length cp) L.length (its L) * (mpi b n L * R)) w' := by
  obtain ⟨i0, hi0, hz0, hz1, hz2⟩ := info_parts Try.infoIt
  obtain ⟨D0, ho0, hr0⟩ := h.mpi_own
  go_enter Try.func15, Try.ntmps15
  go_wp2_with (at_range; go_loud (refine wpList_range_own _ rfl _ mT rfl 9 31 kK Try.underlying38 itR b n D0 rfl ho0 ?_))
  intro w1 hrg hgr hsz
  obtain ⟨r, hr⟩ : ∃ r, w.heap.size = r := ⟨_, rfl⟩
  rw [hr] at hrg ⊢
  have h1 : At w0 (rgi b r n L [] (Maps.size D0) * R) w1 := by
    obtain ⟨ob, h2⟩ := h.exl
    obtain ⟨_, h2⟩ := h2.assoc.factl
    have hrg2 := hrg
    obtain ⟨es, clock, since, seen, c0, hb, F, hs, hD, hi, rest⟩ := hrg2
    have h3 : At w0 (pt r (.mapIter (some b) since seen c0) * (pt b ob * R)) w1 := by
      obtain ⟨x, hx, hsx⟩ := h2.heap
      have hxr : x r = none := by
        cases e : x r with
        | none => rfl
        | some o =>
          have := (Array.getElem?_eq_some_iff.1 (hsx r o e)).1
          omega
      refine ⟨hgr.os.trans h2.os, hgr.tape.trans h2.tape, hgr.output.trans h2.output, _, ⟨_, x, ?_, rfl, rfl, hx⟩, ?_⟩
      · intro k
        by_cases hk : k = r
        · right; rw [hk]; exact hxr
        · left; simp [hk]
      · intro k o e
        by_cases hk : k = r
        · subst hk
          simp [HP.join] at e
          rw [hi, e]
        · simp [HP.join, hk] at e
          have hw := hsx k o e
          exact (hgr.block k (Array.getElem?_eq_some_iff.1 hw).1 (by simp)).trans hw
    exact At.rgi_of h3.pull2 hrg hr0 fun x hx => by
      rw [hr0.has (hL x hx) hL]
      constructor
      · intro _ hm; cases hm
      · intro _; exact has_iff.2 ⟨x, hx, eqB_iff.2 ⟨rfl, rfl⟩⟩
  clear hrg hgr hsz hr h ho0
  go_wp2_with fail
  go_loopw [3] (fun s3 wr => ∃ (ls : List It) (a : Option Addr) (cp cnt : Nat), s3 = .slice a ls.length cp ∧ Sorted ls ∧ (∀ x ∈ ls, x ∈ L) ∧ ls.length ≤ L.length ∧ At w0 (row 31 5 (.slice a ls.length cp) ls.length (its ls) * (rgi b r n L ls cnt * R)) wr) (fun _ wr => wr.rangeLeft b r)
  case atStart => exact ⟨[], none, 0, _, rfl, sorted_nil, fun x hx => (by cases hx), Nat.zero_le _, h1.row_nil _ _⟩
  case round =>
    obtain ⟨ls, a, cp, cnt, rfl, hls, hsub, hlen, h2⟩ := hrel
    clear h1
    have Hsub := hide hsub
    have HL := hide hL
    clear hsub hL
    go_wp2_with (at_next; go_loud (refine wpList_next_rgi rfl _ rfl rfl h2.pull2 hs HL.out ?_ ?_))
    · intro hd
      have Hd := hide hd
      clear hd
      go_wp2_with fail
      go_ret
      have e : ls = L := sorted_ext hls hs fun x => ⟨Hsub.out x, Hd.out x⟩
      subst e
      exact ⟨a, cp, rfl, h2.pull2.rgi_done.pull2⟩
    · intro x c w3 cnt' hcL hcn h3 hlt hen
      have Hm := hide (show cnt' < wr.rangeLeft b r by rw [h2.pull2.rgi_left]; exact hlt)
      have HcL := hide hcL
      have Hcn := hide hcn
      clear hcL hcn hlt h2
      have h4 := (h3.alloc (.cells #[.int .i64 c.t, .string c.k, .string c.v, .int .i64 c.p, .int .i64 c.s] 31)).cast (show _ = row 31 5 (.slice a ls.length cp) ls.length (its ls) * (cel w3.heap.size #[.int .i64 c.t, .string c.k, .string c.v, .int .i64 c.p, .int .i64 c.s] 31 * (rgi b r n L (put ls c) cnt' * R)) by
        show pt w3.heap.size _ * (rgi b r n L (put ls c) cnt' * (row _ 5 _ _ _ * R)) = row _ 5 _ _ _ * (pt w3.heap.size _ * (rgi b r n L (put ls c) cnt' * R))
        ac_rfl)
      clear h3
      go_wp2_with (at_builtin; go_loud (refine wpList_append_row rfl _ _ _ rfl 31 i0 _ 5 56 Try.underlying25 hi0 hz0 hz1 hz2 rfl (by decide) _ _ _ rfl (h4.alloc (.cells #[.int .i64 c.t, .string c.k, .string c.v, .int .i64 c.p, .int .i64 c.s] 31)).pull2 _ 1 1 c.cells rfl rfl (fun j u hu => new_cells (w := w3.alloc _) (by simp) j u hu) c.one (by unfold maxLen; omega) (by omega) ?_))
      intro a5 c5 w5 h5
      have h6 : At w0 (row 31 5 (.slice a5 (ls.length + 1) c5) (ls.length + 1) (its (way ls c ls.length)) * (rgi b r n L (put ls c) cnt' * R)) w5 := by
        have e : way ls c ls.length = ls ++ [c] := by unfold way; rw [List.take_length, List.drop_length]
        rw [e, its_snoc]
        exact h5.pull3.r.pull2.r
      clear h4 h5 hen
      go_wp2_with fail
      have Hpl := hide (put_len_new hls hs Hsub.out HcL.out Hcn.out)
      go_loopw [6] (fun s6 wx => ∃ q : Nat, q ≤ ls.length ∧ s6 = .int .i64 q ∧ (∀ x ∈ ls.drop q, ltB c.t c.k x.t x.k = true) ∧ At w0 (row 31 5 (.slice a5 (ls.length + 1) c5) (ls.length + 1) (its (way ls c q)) * (rgi b r n L (put ls c) cnt' * R)) wx) (fun s6 _ => (intOf s6).toNat)
      case atStart => exact ⟨ls.length, Nat.le_refl _, by go_num, fun x hx => (by rw [List.drop_length] at hx; cases hx), h6⟩
      case round =>
        rename_i wx _
        obtain ⟨q, hq, rfl, hdr, h7⟩ := hrel
        clear h6
        have Hdr := hide hdr
        clear hdr
        cases q with
        | zero =>
          have Hway := hide (show way ls c 0 = put ls c from way_put (fun x hx => by cases hx) Hdr.out)
          rw [Int.natCast_zero]
          go_wp2_with fail
          refine wp_region_line [0, 1, 2, 3, 4, 5, 6, 7, 8, 9, 10, 11, 12, 13, 14, 15, 16, 17, 18, 19, 20, 21, 22, 23, 24, 25, 26, 27, 28, 29, 30, 31, 32, 33, 34, 35, 36, 37, 38, 39, 40, 41, 42, 43, 44, 45, 46, 47, 48, 49] rfl (by kernel_rfl) ?_
          simp only [picks_cons, picks_nil, getD_zero, getD_succ]
          go_wp2_with fail
          refine ⟨by kernel_rfl, ?_⟩
          go_wp2_with fail
          go_roundw
          case rel => exact ⟨put ls c, _, _, cnt', by rw [Hpl.out.1], sorted_put hls c, Hpl.out.2.1, by rw [Hpl.out.1]; exact Hpl.out.2.2, by rw [Hpl.out.1]; have h8 := h7.drew; rw [Hway.out] at h8; exact h8⟩
          case measure => rw [h7.drew.pull2.rgi_left]; exact Hm.out
        | succ p =>
          rcases h7.row_cases.2 with ⟨hv, h0, _⟩ | ⟨g, cap, cur, hv, hnc, hcm, hcs, htake, hat⟩
          · omega
          cases hv
          obtain ⟨hwl, hwq⟩ := way_at (c := c) hq
          obtain ⟨hwl2, hwp⟩ := way_before (c := c) hq
          obtain ⟨e0, e1, e2, e3, e4⟩ := its_five hwl
          obtain ⟨f0, f1, f2, f3, f4⟩ := its_five hwl2
          obtain ⟨P, hP⟩ : ∃ P, ls[p]'(by omega) = P := ⟨_, rfl⟩
          rw [hP] at hwp
          rw [hwq] at e0 e1 e2 e3 e4
          rw [hwp] at f0 f1 f2 f3 f4
          have c0 := (h7.row_cell rfl e0).2
          have c1 := (h7.row_cell rfl e1).2
          have c2 := (h7.row_cell rfl e2).2
          have c3 := (h7.row_cell rfl e3).2
          have c4 := (h7.row_cell rfl e4).2
          have d0 := (h7.row_cell rfl f0).2
          have d1 := (h7.row_cell rfl f1).2
          have d2 := (h7.row_cell rfl f2).2
          have d3 := (h7.row_cell rfl f3).2
          have d4 := (h7.row_cell rfl f4).2
          have hp0 : (0 : Int) < ((p + 1 : Nat) : Int) := by omega
          have hps : p < ls.length := by omega
          have HP := hide hP
          clear hP
          cases hlt : ltB c.t c.k P.t P.k with
          | false =>
            have Hway := hide (way_done hls hs Hsub.out HcL.out Hcn.out hq (by rw [HP.out]; exact hlt) Hdr.out)
            have hni : ¬ (c.t < P.t ∨ c.t = P.t ∧ c.k.toList < P.k.toList) := fun h => by rw [ltB_iff.2 h] at hlt; cases hlt
            clear hlt hwl hwq hwl2 hwp e0 e1 e2 e3 e4 f0 f1 f2 f3 f4 hat htake
            have hn1 : decide (c.t < P.t) = false := decide_eq_false fun h => hni (.inl h)
            by_cases ht : c.t = P.t
            · have ht2 : (c.t == P.t) = true := by rw [ht]; simp
              have hb2 : Op.bytesLess c.k.toList P.k.toList = false := by rw [bytesLess_lt]; exact decide_eq_false fun h => hni (.inr ⟨ht, h⟩)
              have Ht := hide ht
              clear ht hni
              go_wp2_with fail
              refine wp_region_line [0, 1, 2, 3, 4, 5, 6, 7, 8, 9, 10, 11, 12, 13, 14, 15, 16, 17, 18, 19, 20, 21, 22, 23, 24, 25, 26, 27, 28, 29, 30, 31, 32, 33, 34, 35, 36, 37, 38, 39, 40, 41, 42, 43, 44, 45, 46, 47, 48, 49] rfl (by kernel_rfl) ?_
              simp only [picks_cons, picks_nil, getD_zero, getD_succ]
              go_wp2_with fail
              refine ⟨by kernel_rfl, ?_⟩
              go_wp2_with fail
              go_roundw
              case rel => exact ⟨put ls c, _, _, cnt', by rw [Hpl.out.1], sorted_put hls c, Hpl.out.2.1, by rw [Hpl.out.1]; exact Hpl.out.2.2, by rw [Hpl.out.1]; have h8 := h7.drew; rw [Hway.out] at h8; exact h8⟩
              case measure => rw [h7.drew.pull2.rgi_left]; exact Hm.out
            · have ht2 : (c.t == P.t) = false := beq_eq_false_iff_ne.2 ht
              clear ht hni
              go_wp2_with fail
              refine wp_region_line [0, 1, 2, 3, 4, 5, 6, 7, 8, 9, 10, 11, 12, 13, 14, 15, 16, 17, 18, 19, 20, 21, 22, 23, 24, 25, 26, 27, 28, 29, 30, 31, 32, 33, 34, 35, 36, 37, 38, 39, 40, 41, 42, 43, 44, 45, 46, 47, 48, 49] rfl (by kernel_rfl) ?_
              simp only [picks_cons, picks_nil, getD_zero, getD_succ]
              go_wp2_with fail
              refine ⟨by kernel_rfl, ?_⟩
              go_wp2_with fail
              go_roundw
              case rel => exact ⟨put ls c, _, _, cnt', by rw [Hpl.out.1], sorted_put hls c, Hpl.out.2.1, by rw [Hpl.out.1]; exact Hpl.out.2.2, by rw [Hpl.out.1]; have h8 := h7.drew; rw [Hway.out] at h8; exact h8⟩
              case measure => rw [h7.drew.pull2.rgi_left]; exact Hm.out
          | true =>
            have Hdn := hide (show ∀ x ∈ ls.drop p, ltB c.t c.k x.t x.k = true from fun x hx => by
              rw [List.drop_eq_getElem_cons hps] at hx
              rcases List.mem_cons.1 hx with rfl | hx
              · rw [HP.out]; exact hlt
              · exact Hdr.out x hx)
            have h8 := (((((((((hat.set ((p + 1) * 5) (.int .i64 P.t)).set ((p + 1) * 5 + 1) (.string P.k)).set ((p + 1) * 5 + 2) (.string P.v)).set ((p + 1) * 5 + 3) (.int .i64 P.p)).set ((p + 1) * 5 + 4) (.int .i64 P.s)).set (p * 5) (.int .i64 c.t)).set (p * 5 + 1) (.string c.k)).set (p * 5 + 2) (.string c.v)).set (p * 5 + 3) (.int .i64 c.p)).set (p * 5 + 4) (.int .i64 c.s)
            have hcl : cur.toList.length = c5 * 5 := by rw [Array.length_toList, hcs]
            have h9 := At.mkrow (n := ls.length + 1) (size := 5) (xs := its (way ls c p)) h8 hnc hcm (by simp [hcs]) (by
              simp only [Array.toList_setIfInBounds]
              rw [set5 _ _ _ _ _ _ _ (by simp only [List.length_set]; omega), set5 _ _ _ _ _ _ _ (by omega), over_take (by show p * 5 + 5 ≤ _; omega) (by rw [over_length (by show (p + 1) * 5 + 5 ≤ _; omega)]; omega), over_take (by show (p + 1) * 5 + 5 ≤ _; omega) (by omega), htake, ← way_swap hq, HP.out]
              rw [its_set c (by rw [List.length_set, way_len hq]; omega), its_set P (by rw [way_len hq]; omega)]
              rfl)
            have hgf := At.frz hat
            have hgl := At.lt hat
            have hlt3 := ltB_iff.1 hlt
            clear hlt hwl hwq hwl2 hwp e0 e1 e2 e3 e4 f0 f1 f2 f3 f4 hat htake h8 h7
            by_cases ht : c.t < P.t
            · clear hlt3
              go_wp2_with fail
              refine wp_region_line [0, 1, 2, 3, 4, 5, 6, 7, 8, 9, 10, 11, 12, 13, 14, 15, 16, 17, 18, 19, 20, 21, 22, 23, 24, 25, 26, 27, 28, 29, 30, 31, 32, 33, 34, 35, 36, 37, 38, 39, 40, 41, 42, 43, 44, 45, 46, 47, 48, 49] rfl (by kernel_rfl) ?_
              simp only [picks_cons, picks_nil, getD_zero, getD_succ]
              go_wp2_with fail
              refine ⟨by kernel_rfl, ?_⟩
              go_wp2_with fail
              refine wp_region_line [0, 1, 2, 3, 4, 5, 6, 7, 8, 9, 10, 11, 12, 13, 14, 15, 16, 17] rfl (by kernel_rfl) ?_
              simp only [picks_cons, picks_nil, getD_zero, getD_succ]
              go_wp2_with fail
              refine ⟨by kernel_rfl, ?_⟩
              go_wp2_with fail
              go_roundw
              case rel => exact ⟨p, by omega, by go_num, Hdn.out, h9.drew.drew⟩
              case measure => simp [intOf]
            · have hlt4 := hlt3.resolve_left ht
              have hn1 : decide (c.t < P.t) = false := decide_eq_false ht
              have ht2 : (c.t == P.t) = true := by rw [hlt4.1]; simp
              have hb2 : Op.bytesLess c.k.toList P.k.toList = true := by rw [bytesLess_lt]; exact decide_eq_true hlt4.2
              have Ht := hide hlt4
              clear hlt4 hlt3 ht
              go_wp2_with fail
              refine wp_region_line [0, 1, 2, 3, 4, 5, 6, 7, 8, 9, 10, 11, 12, 13, 14, 15, 16, 17, 18, 19, 20, 21, 22, 23, 24, 25, 26, 27, 28, 29, 30, 31, 32, 33, 34, 35, 36, 37, 38, 39, 40, 41, 42, 43, 44, 45, 46, 47, 48, 49] rfl (by kernel_rfl) ?_
              simp only [picks_cons, picks_nil, getD_zero, getD_succ]
              go_wp2_with fail
              refine ⟨by kernel_rfl, ?_⟩
              go_wp2_with fail
              refine wp_region_line [0, 1, 2, 3, 4, 5, 6, 7, 8, 9, 10, 11, 12, 13, 14, 15, 16, 17] rfl (by kernel_rfl) ?_
              simp only [picks_cons, picks_nil, getD_zero, getD_succ]
              go_wp2_with fail
              refine ⟨by kernel_rfl, ?_⟩
              go_wp2_with fail
              go_roundw
              case rel => exact ⟨p, by omega, by go_num, Hdn.out, h9.drew.drew⟩
              case measure => simp [intOf]
end Go.Proofs.Ytghlbhnpgbhllaa
