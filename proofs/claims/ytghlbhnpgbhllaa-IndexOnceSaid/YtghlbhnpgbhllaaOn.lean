/-
  The statement IndexOnce's walk. A contract, no statement.
-/
import Derived.Test.YtghlbhnpgbhllaaNa
import Derived.Test.YtghlbhnpgbhllaaRh
namespace Go.Proofs.Ytghlbhnpgbhllaa
open Go Go.RowKit Go.Shelf
attribute [local go_sem] Oper.semAt_some

theorem put_again {l : List It} (hs : Sorted l) (i : It) : put (put l i) i = put l i := by
  refine sorted_ext (sorted_put (sorted_put hs i) i) (sorted_put hs i) fun x => ?_
  rw [mem_put, mem_put]
  constructor
  · rintro (h | ⟨h, _⟩)
    · exact .inl h
    · exact h
  · rintro (h | ⟨h, h'⟩)
    · exact .inl h
    · exact .inr ⟨.inr ⟨h, h'⟩, h'⟩
theorem del_put {l : List It} (hs : Sorted l) {i : It} (h : has l i.t i.k = false) : del (put l i) i.t i.k = l := by
  refine sorted_ext (sorted_del (sorted_put hs i) _ _) hs fun x => ?_
  rw [mem_del, mem_put]
  have hn : ∀ x ∈ l, eqB x.t x.k i.t i.k = false := fun x hx => by
    rw [Bool.eq_false_iff]
    intro he
    have := has_iff.2 ⟨x, hx, he⟩
    rw [h] at this; cases this
  constructor
  · rintro ⟨rfl | ⟨h1, _⟩, h2⟩
    · rw [eqB_iff.2 ⟨rfl, rfl⟩] at h2; cases h2
    · exact h1
  · intro hx
    exact ⟨.inr ⟨hx, hn x hx⟩, hn x hx⟩
theorem fnd_put {l : List It} (hs : Sorted l) (i : It) : fnd (put l i) i.t i.k = some i := (fnd_iff (sorted_put hs i)).2 ⟨mem_put.2 (.inl rfl), eqB_iff.2 ⟨rfl, rfl⟩⟩
theorem pre_get {α : Type} {l pre : List α} {x : α} (hp : pre ++ [x] <+: l) : ∃ h : pre.length < l.length, l[pre.length] = x := by
  have h1 := hp.length_le
  rw [List.length_append, List.length_singleton] at h1
  refine ⟨by omega, ?_⟩
  have h2 := hp.getElem (i := pre.length) (by simp)
  rw [← h2]
  simp
/-- The rows of other keys than i's, put one by one. -/
def othN (z : Nat → Cl) (i : It) : Nat → List It
  | 0 => []
  | k + 1 => if eqB (it3 (z k).i).t (it3 (z k).i).k i.t i.k then othN z i k else put (othN z i k) (it3 (z k).i)
theorem othN_sorted (z : Nat → Cl) (i : It) : ∀ k, Sorted (othN z i k)
  | 0 => sorted_nil
  | k + 1 => by
    unfold othN
    split
    · exact othN_sorted z i k
    · exact sorted_put (othN_sorted z i k) _
theorem othN_len (z : Nat → Cl) (i : It) : ∀ k, (othN z i k).length ≤ k
  | 0 => Nat.le_refl _
  | k + 1 => by
    have h1 := othN_len z i k
    unfold othN
    split
    · omega
    · rw [len_put (othN_sorted z i k)]
      split <;> omega
theorem othN_has (z : Nat → Cl) (i : It) : ∀ k, has (othN z i k) i.t i.k = false
  | 0 => rfl
  | k + 1 => by
    have h1 := othN_has z i k
    unfold othN
    split
    · exact h1
    · rename_i hne
      rw [Bool.eq_false_iff]
      intro h
      obtain ⟨x, hx, he⟩ := has_iff.1 h
      rcases mem_put.1 hx with rfl | ⟨hx, _⟩
      · exact hne he
      · have := has_iff.2 ⟨x, hx, he⟩
        rw [h1] at this; cases this
/-- A call's cells. -/
def clC (c : Cl) : List Value := [.int .i64 c.k, .int .i64 c.i.t, .string c.i.k, .string c.i.v, .int .i64 c.i.p, .int .i64 c.i.s]
def cls (l : List Cl) : List Value := l.flatMap clC
theorem cls_length (l : List Cl) : (cls l).length = l.length * 6 := by
  induction l with
  | nil => rfl
  | cons c l ih =>
    show (clC c ++ cls l).length = _
    rw [List.length_append, ih, List.length_cons]
    show 6 + _ = _
    omega
theorem cls_at : ∀ (l : List Cl) (k j : Nat) (hk : k < l.length) (_ : j < 6), (cls l)[k * 6 + j]? = (clC l[k])[j]?
  | c :: l, 0, j, _, hj => by
    show (clC c ++ cls l)[0 * 6 + j]? = _
    rw [Nat.zero_mul, Nat.zero_add]
    exact List.getElem?_append_left hj
  | c :: l, k + 1, j, hk, hj => by
    show (clC c ++ cls l)[(k + 1) * 6 + j]? = _
    have e : (clC c).length = 6 := rfl
    rw [List.getElem?_append_right (by omega), e, show (k + 1) * 6 + j - 6 = k * 6 + j by omega]
    exact cls_at l k j (by simpa using hk) hj
theorem cls_one (l : List Cl) : ∀ u ∈ cls l, u.oneCell' = true := by
  intro u hu
  obtain ⟨c, _, hc⟩ := List.mem_flatMap.1 hu
  simp [clC] at hc
  rcases hc with rfl | rfl | rfl | rfl | rfl | rfl <;> rfl
theorem Try.infoCall : (Try.prog.info? 33).map (fun i => (i.zero, i.size, i.bytes)) = some (some (.agg #[.int .i64 0, .int .i64 0, .string ⟨#[]⟩, .string ⟨#[]⟩, .int .i64 0, .int .i64 0]), 6, 64) := by kernel_rfl
/-- The calls that came in, as a list of cells. -/
theorem cls_arg {W : World} {a : Option Addr} {n : Nat} {z : Nat → Cl} (hz : Cls W a n z) {b o : Nat} (ha : a = some ⟨b, o, none⟩) (j : Nat) (u : Value) (hu : (cls ((List.range n).map z))[j]? = some u) : W.cell? ⟨b, o + j, none⟩ = some u := by
  have hj : j < n * 6 := by
    have := (List.getElem?_eq_some_iff.1 hu).1
    rw [cls_length] at this
    simpa using this
  have hq : j / 6 < n := by omega
  have e : j = j / 6 * 6 + j % 6 := by omega
  have h6 : j % 6 < 6 := Nat.mod_lt _ (by decide)
  rw [e, cls_at _ _ _ (by simpa using hq) h6] at hu
  simp only [List.getElem_map, List.getElem_range] at hu
  obtain ⟨b', o', e', c0, c1, c2, c3, c4, c5⟩ := hz (j / 6) hq
  rw [ha] at e'
  cases e'
  rw [e]
  have : j % 6 = 0 ∨ j % 6 = 1 ∨ j % 6 = 2 ∨ j % 6 = 3 ∨ j % 6 = 4 ∨ j % 6 = 5 := by omega
  rcases this with h | h | h | h | h | h <;> rw [h] at hu ⊢ <;> simp [clC] at hu <;> subst hu
  · exact c0
  · exact c1
  · exact c2
  · exact c3
  · exact c4
  · exact c5

set_option maxRecDepth 100000 in
set_option maxHeartbeats 8000000 in
theorem once_walk (W : World) (a : Option Addr) (n cap : Nat) (z : Nat → Cl) (i : It) (hn : n * 64 ≤ 140737488351232 ∧ (a = none → n = 0 ∧ cap = 0)) (hsz : ∀ i, (z i).i.k.size ≤ 140737488355328 ∧ (z i).i.v.size ≤ 140737488355328) (hz : Cls W a n z)
    (hi : i.k.size ≤ 140737488355328 ∧ i.v.size ≤ 140737488355328) :
    Calls Try.prog 9 #[.slice a n cap, .agg #[.int .i64 i.t, .string i.k, .string i.v, .int .i64 i.p, .int .i64 i.s]] W fun e W' => e = .returned (.bool true) ∧ Below W.heap.size W W' := by
  refine (callsIn_wide (n := 9)).1 ?_
  refine callsIn_of_wp_marks Try.func9 rfl trivial (wpIn_wide.2 ?_)
  simp only [Try.ntmps9, List.size_toArray, List.length_cons, List.length_nil, Nat.reduceAdd, Nat.reduceSub, Array.replicate_succ, Array.replicate_zero, List.push_toArray, List.append_toArray, List.nil_append, List.cons_append]
  go_wp2_with fail
  obtain ⟨BI, hBI⟩ : ∃ N, W.heap.size = N := ⟨_, rfl⟩
  obtain ⟨RB, hRB⟩ : ∃ N, W.heap.size + 1 = N := ⟨_, rfl⟩
  have h1 := ((At.startR W).alloc' hBI (.cells #[.int .i64 i.t, .string i.k, .string i.v, .int .i64 i.p, .int .i64 i.s] 31)).alloc' (show _ = RB by simp [hRB]) (.cells #[.bool false] 4)
  have hfit := fit_any W _ _ h1
  rw [hRB, hBI]
  clear hRB hBI
  refine hfit.mono ?_
  rintro e w1 ⟨rfl, h2⟩
  obtain ⟨i1, hi1, hy0, hy1, hy2⟩ := info_parts Try.infoCall
  have hb0 := At.cell (i := 0) h2.pull2 rfl
  have hb1 := At.cell (i := 1) h2.pull2 rfl
  have hb2 := At.cell (i := 2) h2.pull2 rfl
  have hb3 := At.cell (i := 3) h2.pull2 rfl
  have hb4 := At.cell (i := 4) h2.pull2 rfl
  -- the calls with i ahead of them
  have h3 := (h2.alloc (.cells #[.int .i64 0, .int .i64 i.t, .string i.k, .string i.v, .int .i64 i.p, .int .i64 i.s] 33))
  have h3r : At W (row 33 6 (.slice (some ⟨w1.heap.size, 0, none⟩) 1 1) 1 (clC ⟨0, i⟩) * (cel RB #[.bool false] 4 * (cel BI #[.int .i64 i.t, .string i.k, .string i.v, .int .i64 i.p, .int .i64 i.s] 31 * (old W * 1)))) (w1.alloc (.cells #[.int .i64 0, .int .i64 i.t, .string i.k, .string i.v, .int .i64 i.p, .int .i64 i.s] 33)) :=
    h3.mkrow (n := 1) (size := 6) (Nat.le_refl _) (by decide) rfl rfl
  have hap : ∀ ty, ∃ a' cp' w', (Builtin.append_ #[22, 22] ty #[.slice (some ⟨w1.heap.size, 0, none⟩) 1 1, .slice a n cap]).run Try.prog (w1.alloc (.cells #[.int .i64 0, .int .i64 i.t, .string i.k, .string i.v, .int .i64 i.p, .int .i64 i.s] 33)) = .ok (.slice a' (n + 1) cp') w' ∧
      At W (row 33 6 (.slice a' (n + 1) cp') (n + 1) (cls (⟨0, i⟩ :: (List.range n).map z)) * (cel RB #[.bool false] 4 * (cel BI #[.int .i64 i.t, .string i.k, .string i.v, .int .i64 i.p, .int .i64 i.s] 31 * (old W * 1)))) w' := by
    intro ty
    cases ha : a with
    | none =>
      obtain ⟨rfl, rfl⟩ := hn.2 ha
      exact ⟨_, _, _, run_append_row_none _ ty _ i1 Try.underlying22 hi1 h3r, h3r⟩
    | some ad =>
      obtain ⟨b, o, s⟩ := ad
      have hnews : ∀ (j : Nat) (u : Value), (cls ((List.range n).map z))[j]? = some u → (w1.alloc (.cells #[.int .i64 0, .int .i64 i.t, .string i.k, .string i.v, .int .i64 i.p, .int .i64 i.s] 33)).cell? ((⟨b, o, s⟩ : Addr).add j) = some u := fun j u hu => by
        have hj : j < n * 6 := by
          have := (List.getElem?_eq_some_iff.1 hu).1
          rw [cls_length] at this
          simpa using this
        obtain ⟨b', o', e', _⟩ := hz 0 (by omega)
        rw [ha] at e'
        cases e'
        rw [Addr.add_lit]
        exact h3r.pull4.old_cell (cls_arg hz ha j u hu)
      obtain ⟨v', w', hr, h4, _⟩ := run_append_row (P := Try.prog) 22 ty 33 i1 _ 6 64 Try.underlying22 hi1 hy0 hy1 hy2 rfl (by decide) h3r ⟨b, o, s⟩ n cap _ (by rw [cls_length]; simp) hnews (cls_one _) (by unfold maxLen; omega) (by omega)
      obtain ⟨a', cp', rfl⟩ := h4.row_len
      rw [Nat.add_comm 1 n] at h4 hr
      exact ⟨a', cp', w', hr, h4⟩
  obtain ⟨a', cp', w2, hr, h4⟩ := hap 22
  clear hap h3 h3r h1 hfit
  have hLq : ∀ q, q < n + 1 → ((⟨0, i⟩ : Cl) :: (List.range n).map z)[q]? = some (if q = 0 then ⟨0, i⟩ else z (q - 1)) := fun q hq => by
    cases q with
    | zero => rfl
    | succ q =>
      have hq' : q < n := by omega
      simp [hq']
  have hli := light_any W _ _ a' (n + 1) cp' (fun q => if q = 0 then ⟨0, i⟩ else z (q - 1)) (by omega) (fun q => by
      by_cases hq : q = 0
      · simp only [if_pos hq]; omega
      · simp only [if_neg hq]; have := hsz (q - 1); omega) h4 (fun w' h q hq => by
    obtain ⟨g, cq, e, hle, hcell⟩ := h.row_ptr (by omega)
    cases e
    have hL := hLq q hq
    have hql : q < ((⟨0, i⟩ : Cl) :: (List.range n).map z).length := by simpa using hq
    have hL2 : ((⟨0, i⟩ : Cl) :: (List.range n).map z)[q] = (if q = 0 then ⟨0, i⟩ else z (q - 1)) := by
      rw [List.getElem?_eq_getElem hql] at hL
      exact Option.some.inj hL
    have hc := fun j hj u (hu : (clC (if q = 0 then ⟨0, i⟩ else z (q - 1)))[j]? = some u) => hcell (q * 6 + j) u (by rw [cls_at _ q j hql hj, hL2]; exact hu)
    refine ⟨g, 0, rfl, ?_⟩
    simp only [Nat.zero_add]
    exact ⟨hc 0 (by omega) _ rfl, hc 1 (by omega) _ rfl, hc 2 (by omega) _ rfl, hc 3 (by omega) _ rfl, hc 4 (by omega) _ rfl, hc 5 (by omega) _ rfl⟩)
  have Hz := hide hz
  have Hn := hide hn
  clear hz hLq hsz hn
  go_wp2_with (at_builtin; go_loud (refine wpList_append_eq rfl _ _ _ _ rfl _ _ rfl rfl hr ?_))
  refine hli.mono ?_
  rintro e w3 ⟨h5, hlr⟩
  clear hb0 hb1 hb2 hb3 hb4 hli h2 h4 hr hi1 hy0 hy1 hy2
  have h6 := h5.r
  clear h5
  rcases hlr with ⟨rfl, hl⟩ | rfl
  · have hn120 := hl.1
    have hik : i.k.size ≤ 100 := by
      have h0 : i.k.size + i.v.size ≤ 100 := hl.2 0 (by omega)
      omega
    have hzk : ∀ q, q < n → (z q).i.k.size ≤ 100 := fun q hq => by
      have h0 : (z q).i.k.size + (z q).i.v.size ≤ 100 := hl.2 (q + 1) (by omega)
      omega
    have Hzk := hide hzk
    clear hl hzk
    obtain ⟨X, hX⟩ : ∃ N, w3.heap.size = N := ⟨_, rfl⟩
    obtain ⟨Y, hY⟩ : ∃ N, w3.heap.size + 1 = N := ⟨_, rfl⟩
    have hb0 := At.cell (i := 0) h6.pull2 rfl
    have hbf := At.frz h6.pull2
    have hbl := At.lt h6.pull2
    have hit := and3x i.t
    have h7 := h6.pull2.set' (d := #[.int .i64 (bits .and .i64 i.t 3), .string i.k, .string i.v, .int .i64 i.p, .int .i64 i.s]) 0 (.int .i64 (bits .and .i64 i.t 3)) rfl
    have h8 := At.ixb_new ((h7.alloc' (show _ = X by simp [hX]) (.cells #[.slice none 0 0] 27)).alloc' (show _ = Y by simp [hY]) (.cells #[.slice none 0 0] 27))
    have h9 := At.ixb_new h8.pull2
    have HX := hide hX
    have HY := hide hY
    clear hX hY h7 h8
    go_wp2_with fail
    rw [HY.out, HX.out]
    clear HX HY
    clear hb0 hbf hbl h6
    generalize bits .and .i64 i.t 3 = it at *
    have h10 := h9.cast (show _ = ixb Y (othN z ⟨it, i.k, i.v, i.p, i.s⟩ 0) * (ixb X (othN z ⟨it, i.k, i.v, i.p, i.s⟩ 0) * (cel BI #[.int .i64 it, .string i.k, .string i.v, .int .i64 i.p, .int .i64 i.s] 31 * (cel RB #[.bool false] 4 * (old W * 1)))) by
      show ixb X [] * (ixb Y [] * (cel BI _ _ * (cel RB _ _ * _))) = ixb Y [] * (ixb X [] * (cel BI _ _ * (cel RB _ _ * _)))
      ac_rfl)
    clear h9
    go_loopw [33] (fun u wr => ∃ k : Nat, k ≤ n ∧ u = .int .i64 k ∧ At W (ixb Y (othN z ⟨it, i.k, i.v, i.p, i.s⟩ k) * (ixb X (othN z ⟨it, i.k, i.v, i.p, i.s⟩ k) * (cel BI #[.int .i64 it, .string i.k, .string i.v, .int .i64 i.p, .int .i64 i.s] 31 * (cel RB #[.bool false] 4 * (old W * 1))))) wr) (fun u _ => n - (intOf u).toNat)
    case atStart => exact ⟨0, Nat.zero_le _, rfl, h10⟩
    case round =>
      obtain ⟨k, hk, rfl, h11⟩ := hrel
      clear h10
      by_cases hkn : k < n
      · obtain ⟨b, o, rfl, c0, c1, c2, c3, c4, c5⟩ := Hz.out k hkn
        have d0 := h11.pull5.old_cell c0
        have d1 := h11.pull5.old_cell c1
        have d2 := h11.pull5.old_cell c2
        have d3 := h11.pull5.old_cell c3
        have d4 := h11.pull5.old_cell c4
        have d5 := h11.pull5.old_cell c5
        have hkz : (k : Int) < (n : Int) := by omega
        have hck := Hzk.out k hkn
        have hct := and3x (z k).i.t
        have hol := othN_len z ⟨it, i.k, i.v, i.p, i.s⟩ k
        have hos := othN_sorted z ⟨it, i.k, i.v, i.p, i.s⟩ k
        have Hstep := hide (show othN z ⟨it, i.k, i.v, i.p, i.s⟩ (k + 1) = if eqB (bits .and .i64 (z k).i.t 3) (z k).i.k it i.k then othN z ⟨it, i.k, i.v, i.p, i.s⟩ k else put (othN z ⟨it, i.k, i.v, i.p, i.s⟩ k) ⟨bits .and .i64 (z k).i.t 3, (z k).i.k, (z k).i.v, (z k).i.p, (z k).i.s⟩ from rfl)
        obtain ⟨C, hC⟩ : ∃ N, wr.heap.size = N := ⟨_, rfl⟩
        have h12 := (h11.alloc' hC (.cells #[.int .i64 (z k).k, .int .i64 (bits .and .i64 (z k).i.t 3), .string (z k).i.k, .string (z k).i.v, .int .i64 (z k).i.p, .int .i64 (z k).i.s] 33))
        have HC := hide hC
        clear c0 c1 c2 c3 c4 c5 hC h11
        generalize othN z ⟨it, i.k, i.v, i.p, i.s⟩ k = L at *
        generalize (z k).i.t = ct at *
        generalize (z k).i.k = ck at *
        generalize (z k).i.v = cv at *
        generalize (z k).i.p = cp2 at *
        generalize (z k).i.s = cs at *
        generalize (z k).k = cc at *
        go_wp2_with fail
        rw [HC.out]
        clear HC d0 d1 d2 d3 d4 d5
        generalize bits .and .i64 ct 3 = c3t at *
        have hS : ∀ w', At W (pt C (.cells #[.int .i64 cc, .int .i64 c3t, .string ck, .string cv, .int .i64 cp2, .int .i64 cs] 33) * (ixb Y L * (ixb X L * (cel BI #[.int .i64 it, .string i.k, .string i.v, .int .i64 i.p, .int .i64 i.s] 31 * (cel RB #[.bool false] 4 * (old W * 1)))))) w' → At W (pt C (.cells #[.int .i64 cc, .int .i64 c3t, .string ck, .string cv, .int .i64 cp2, .int .i64 cs] 33) * (ixb Y L * (ixb X L * (cel BI #[.int .i64 it, .string i.k, .string i.v, .int .i64 i.p, .int .i64 i.s] 31 * (cel RB #[.bool false] 4 * (old W * 1)))))) w' ∧ (w'.cell? ⟨C, 1, none⟩ = some (.int .i64 c3t) ∧ w'.cell? ⟨C, 2, none⟩ = some (.string ck) ∧ w'.cell? ⟨C, 3, none⟩ = some (.string cv) ∧ w'.cell? ⟨C, 4, none⟩ = some (.int .i64 cp2) ∧ w'.cell? ⟨C, 5, none⟩ = some (.int .i64 cs)) ∧
            (w'.cell? ⟨BI, 0, none⟩ = some (.int .i64 it) ∧ w'.cell? ⟨BI, 1, none⟩ = some (.string i.k) ∧ w'.cell? ⟨BI, 2, none⟩ = some (.string i.v) ∧ w'.cell? ⟨BI, 3, none⟩ = some (.int .i64 i.p) ∧ w'.cell? ⟨BI, 4, none⟩ = some (.int .i64 i.s)) := fun w' h =>
          ⟨h, ⟨At.cell (i := 1) (b := C) h rfl, At.cell (i := 2) (b := C) h rfl, At.cell (i := 3) (b := C) h rfl, At.cell (i := 4) (b := C) h rfl, At.cell (i := 5) (b := C) h rfl⟩,
            ⟨h.pull4.cell (i := 0) rfl, h.pull4.cell (i := 1) rfl, h.pull4.cell (i := 2) rfl, h.pull4.cell (i := 3) rfl, h.pull4.cell (i := 4) rfl⟩⟩
        have hnm := nmB_eq (i := ⟨c3t, ck, cv, cp2, cs⟩) (j := ⟨it, i.k, i.v, i.p, i.s⟩) hct hit
        simp only at hnm
        generalize wr.alloc (.cells #[.int .i64 cc, .int .i64 c3t, .string ck, .string cv, .int .i64 cp2, .int .i64 cs] 33) = wa at h12 ⊢
        have hcall := fun (t : Int) (k v : ByteArray) (p s : Int) (w1 : World) (h1 : 0 ≤ t ∧ t ≤ 3) (h2 : k.size ≤ 100) h => name_any W w1 (pt C (.cells #[.int .i64 cc, .int .i64 c3t, .string ck, .string cv, .int .i64 cp2, .int .i64 cs] 33) * (ixb Y L * (ixb X L * (cel BI #[.int .i64 it, .string i.k, .string i.v, .int .i64 i.p, .int .i64 i.s] 31 * (cel RB #[.bool false] 4 * (old W * 1)))))) ⟨t, k, v, p, s⟩ h1 (by show k.size ≤ _; omega) h
        simp only at hcall
        refine wp_region_held_line 5 [5] (fun w' => At W (pt C (.cells #[.int .i64 cc, .int .i64 c3t, .string ck, .string cv, .int .i64 cp2, .int .i64 cs] 33) * (ixb Y L * (ixb X L * (cel BI #[.int .i64 it, .string i.k, .string i.v, .int .i64 i.p, .int .i64 i.s] 31 * (cel RB #[.bool false] 4 * (old W * 1)))))) w') rfl (by kernel_rfl) h12.drew ?_
        simp only [List.take_succ_cons, List.take_zero]
        refine held_read (.pointer (some ⟨C, 1, none⟩)) rfl (fun w' hw => ?_) ?_
        · go_simp
        refine held_read (.agg #[.int .i64 c3t, .string ck, .string cv, .int .i64 cp2, .int .i64 cs]) rfl (fun w' hw => ?_) ?_
        · obtain ⟨_, ⟨q1, q2, q3, q4, q5⟩, _⟩ := hS w' hw
          go_simp
        refine held_call (.string (nmB ⟨c3t, ck, cv, cp2, cs⟩)) 14 #[.agg #[.int .i64 c3t, .string ck, .string cv, .int .i64 cp2, .int .i64 cs]] rfl (fun w' => by go_simp) (fun w' hw => hcall _ _ _ _ _ _ hct hck hw) ?_
        refine held_read (.agg #[.int .i64 it, .string i.k, .string i.v, .int .i64 i.p, .int .i64 i.s]) rfl (fun w' hw => ?_) ?_
        · obtain ⟨_, _, ⟨q1, q2, q3, q4, q5⟩⟩ := hS w' hw
          go_simp
        refine held_call (.string (nmB ⟨it, i.k, i.v, i.p, i.s⟩)) 14 #[.agg #[.int .i64 it, .string i.k, .string i.v, .int .i64 i.p, .int .i64 i.s]] rfl (fun w' => by go_simp) (fun w' hw => hcall _ _ _ _ _ _ hit hik hw) ?_
        refine held_skip fun w5 h13 => ?_
        simp only [picks_cons, picks_nil, getD_zero, getD_succ]
        clear h12
        cases he : eqB c3t ck it i.k with
        | true =>
          rw [he] at hnm Hstep
          clear he
          go_wp2_with fail
          refine ⟨by kernel_rfl, ?_⟩
          go_wp2_with fail
          go_roundw
          case rel => exact ⟨k + 1, by omega, by go_num, by rw [Hstep.out, if_pos trivial]; exact h13.r⟩
          case measure => simp [intOf]; omega
        | false =>
          rw [he] at hnm Hstep
          clear he
          have k1 := At.cell (i := 1) (b := C) h13 rfl
          have k2 := At.cell (i := 2) (b := C) h13 rfl
          have k3 := At.cell (i := 3) (b := C) h13 rfl
          have k4 := At.cell (i := 4) (b := C) h13 rfl
          have k5 := At.cell (i := 5) (b := C) h13 rfl
          have hp1 := put_any W _ _ X L ⟨c3t, ck, cv, cp2, cs⟩ hos (by omega) h13.pull3
          go_wp2_with fail
          refine ⟨by kernel_rfl, ?_⟩
          go_wp2_with fail
          refine hp1.mono ?_
          rintro e w6 ⟨rfl, h14⟩
          clear k1 k2 k3 k4 k5 hp1 h13
          have k1 := At.cell (i := 1) (b := C) h14.pull2 rfl
          have k2 := At.cell (i := 2) (b := C) h14.pull2 rfl
          have k3 := At.cell (i := 3) (b := C) h14.pull2 rfl
          have k4 := At.cell (i := 4) (b := C) h14.pull2 rfl
          have k5 := At.cell (i := 5) (b := C) h14.pull2 rfl
          have hp2 := put_any W _ _ Y L ⟨c3t, ck, cv, cp2, cs⟩ hos (by omega) h14.pull3
          go_wp2_with fail
          refine hp2.mono ?_
          rintro e w7 ⟨rfl, h15⟩
          clear k1 k2 k3 k4 k5 hp2 h14
          go_wp2_with fail
          go_roundw
          case rel => exact ⟨k + 1, by omega, by go_num, by rw [Hstep.out, if_neg (by simp)]; exact h15.pull3.r⟩
          case measure => simp [intOf]; omega
      · obtain rfl : n = k := by omega
        have hls := othN_sorted z ⟨it, i.k, i.v, i.p, i.s⟩ n
        have hll := othN_len z ⟨it, i.k, i.v, i.p, i.s⟩ n
        have hlh := othN_has z ⟨it, i.k, i.v, i.p, i.s⟩ n
        obtain ⟨L, hL⟩ : ∃ L, othN z ⟨it, i.k, i.v, i.p, i.s⟩ n = L := ⟨_, rfl⟩
        rw [hL] at hls hll hlh h11
        have HL := hide hL
        clear hL
        have hl119 : L.length ≤ 119 := by omega
        have Hlh := hide hlh
        simp only at hlh
        have hln1 := len_any W _ _ X L h11.pull2
        go_wp2_with fail
        refine hln1.mono ?_
        rintro e w4 ⟨rfl, rfl⟩
        have q0 := At.cell (i := 0) (b := BI) h11.pull3 rfl
        have q1 := At.cell (i := 1) (b := BI) h11.pull3 rfl
        have q2 := At.cell (i := 2) (b := BI) h11.pull3 rfl
        have q3 := At.cell (i := 3) (b := BI) h11.pull3 rfl
        have q4 := At.cell (i := 4) (b := BI) h11.pull3 rfl
        have hp1 := put_any W _ _ X L ⟨it, i.k, i.v, i.p, i.s⟩ hls (by omega) h11.pull2
        clear hln1
        go_wp2_with fail
        refine hp1.mono ?_
        rintro e w5 ⟨rfl, h12⟩
        clear hp1 q0 q1 q2 q3 q4 h11
        have q0 := At.cell (i := 0) (b := BI) h12.pull3 rfl
        have q1 := At.cell (i := 1) (b := BI) h12.pull3 rfl
        have q2 := At.cell (i := 2) (b := BI) h12.pull3 rfl
        have q3 := At.cell (i := 3) (b := BI) h12.pull3 rfl
        have q4 := At.cell (i := 4) (b := BI) h12.pull3 rfl
        have hpl : (put L ⟨it, i.k, i.v, i.p, i.s⟩).length = L.length + 1 := by rw [len_put hls, if_neg (by rw [show has L it i.k = false from hlh]; simp)]
        have hps := sorted_put hls ⟨it, i.k, i.v, i.p, i.s⟩
        have hp2 := put_any W _ _ X (put L ⟨it, i.k, i.v, i.p, i.s⟩) ⟨it, i.k, i.v, i.p, i.s⟩ hps (by omega) h12
        rw [put_again hls ⟨it, i.k, i.v, i.p, i.s⟩] at hp2
        have Hpl := hide hpl
        clear hpl
        go_wp2_with fail
        refine hp2.mono ?_
        rintro e w6 ⟨rfl, h13⟩
        clear hp2 q0 q1 q2 q3 q4 h12
        have q0 := At.cell (i := 0) (b := BI) h13.pull3 rfl
        have q1 := At.cell (i := 1) (b := BI) h13.pull3 rfl
        have q2 := At.cell (i := 2) (b := BI) h13.pull3 rfl
        have q3 := At.cell (i := 3) (b := BI) h13.pull3 rfl
        have q4 := At.cell (i := 4) (b := BI) h13.pull3 rfl
        have hf := find_yes W _ _ X (put L ⟨it, i.k, i.v, i.p, i.s⟩) it i.k ⟨it, i.k, i.v, i.p, i.s⟩ hps (by rw [Hpl.out]; omega) (fnd_put hls ⟨it, i.k, i.v, i.p, i.s⟩) h13
        unfold It.agg at hf
        go_wp2_with fail
        refine hf.mono ?_
        rintro e w7 ⟨rfl, h14⟩
        obtain ⟨FB, hFB⟩ : ∃ N, w7.heap.size = N := ⟨_, rfl⟩
        have h15 := h14.alloc' hFB (.cells #[.int .i64 it, .string i.k, .string i.v, .int .i64 i.p, .int .i64 i.s] 31)
        clear hf q0 q1 q2 q3 q4 h13
        have q0 := At.cell (i := 0) (b := BI) h15.pull4 rfl
        have q1 := At.cell (i := 1) (b := BI) h15.pull4 rfl
        have q2 := At.cell (i := 2) (b := BI) h15.pull4 rfl
        have q3 := At.cell (i := 3) (b := BI) h15.pull4 rfl
        have q4 := At.cell (i := 4) (b := BI) h15.pull4 rfl
        have f0 := At.cell (i := 0) (b := FB) h15 rfl
        have f1 := At.cell (i := 1) (b := FB) h15 rfl
        have f2 := At.cell (i := 2) (b := FB) h15 rfl
        have f3 := At.cell (i := 3) (b := FB) h15 rfl
        have f4 := At.cell (i := 4) (b := FB) h15 rfl
        have hln2 := len_any W _ _ X _ h15.pull2
        rw [Hpl.out] at hln2
        have HFB := hide hFB
        clear hFB h14
        go_wp2_with fail
        refine hln2.mono ?_
        rintro e w8 ⟨rfl, rfl⟩
        have hrm := remove_any W _ _ X (put L ⟨it, i.k, i.v, i.p, i.s⟩) it i.k hps (by rw [Hpl.out]; omega) h15.pull2
        rw [show del (put L ⟨it, i.k, i.v, i.p, i.s⟩) it i.k = L from del_put hls Hlh.out] at hrm
        clear hln2 f0 f1 f2 f3 f4
        go_wp2_with fail
        refine hrm.mono ?_
        rintro e w9 ⟨rfl, h16⟩
        clear hrm q0 q1 q2 q3 q4 h15
        have q0 := At.cell (i := 0) (b := BI) h16.pull4 rfl
        have q1 := At.cell (i := 1) (b := BI) h16.pull4 rfl
        have q2 := At.cell (i := 2) (b := BI) h16.pull4 rfl
        have q3 := At.cell (i := 3) (b := BI) h16.pull4 rfl
        have q4 := At.cell (i := 4) (b := BI) h16.pull4 rfl
        have hrm := remove_any W _ _ X L it i.k hls (by omega) h16
        rw [del_none (show has L it i.k = false from Hlh.out)] at hrm
        go_wp2_with fail
        refine hrm.mono ?_
        rintro e v1 ⟨rfl, h17⟩
        clear hrm q0 q1 q2 q3 q4 h16
        obtain ⟨i0, hi0, hz0, hz1, hz2⟩ := info_parts Try.infoIt
        obtain ⟨Lb, hLb⟩ : ∃ N, v1.heap.size = N := ⟨_, rfl⟩
        have h18 := At.lsb_new (h17.alloc' hLb (.cells #[.slice none 0 0] 25))
        clear h17
        go_wp2_with fail
        clear hLb
        have hon1 := all_on W X L (by omega)
        refine wpIn_wide.1 (wp_rangeFunc_on (n := 9) (w0 := W) rfl (enters_of Try.func16 (by kernel_rfl) rfl) hon1 (fun _ => rfl)
          (fun pre => lsb Lb (([] : List It) ++ pre)) (fun _ => fact False) (pt FB (.cells #[.int .i64 it, .string i.k, .string i.v, .int .i64 i.p, .int .i64 i.s] 31) * (ixb Y L * (cel BI #[.int .i64 it, .string i.k, .string i.v, .int .i64 i.p, .int .i64 i.s] 31 * (cel RB #[.bool false] 4 * (old W * 1))))) (h18.cast (show _ = ixb X L * (lsb Lb [] * (pt FB (.cells #[.int .i64 it, .string i.k, .string i.v, .int .i64 i.p, .int .i64 i.s] 31) * (ixb Y L * (cel BI #[.int .i64 it, .string i.k, .string i.v, .int .i64 i.p, .int .i64 i.s] 31 * (cel RB #[.bool false] 4 * (old W * 1)))))) by ac_rfl)) ?_ ?_ ?_)
        · intro l pre x B1 W1 hp hJ
          simp only [encIt]
          have hle := hp.length_le
          have Hle := hide (show (([] : List It) ++ pre).length ≤ 1000 by rw [List.length_append] at hle ⊢; simp only [List.length_append, List.length_cons, List.length_nil] at hle ⊢; omega)
          clear hle
          gi_wp2
          obtain ⟨O, hO⟩ : ∃ N, W1.heap.size = N := ⟨_, rfl⟩
          have hJ1 := (hJ.alloc' hO (.cells #[.int .i64 x.t, .string x.k, .string x.v, .int .i64 x.p, .int .i64 x.s] 31)).cast (show _ = (pt O (.cells #[.int .i64 x.t, .string x.k, .string x.v, .int .i64 x.p, .int .i64 x.s] 31) * ((ixb X L) * lsb Lb (([] : List It) ++ pre))) * B1 by ac_rfl)
          rw [hO]
          clear hO
          refine ⟨_, hJ1, fun B2 W2 hJ2 => ?_⟩
          clear hJ hJ1 hp
          have h15 := hJ2.cast (show _ = lsb Lb (([] : List It) ++ pre) * (pt O (.cells #[.int .i64 x.t, .string x.k, .string x.v, .int .i64 x.p, .int .i64 x.s] 31) * ((ixb X L) * B2)) by ac_rfl)
          have Hls := hide (show ([] : List It) ++ (pre ++ [x]) = (([] : List It) ++ pre) ++ [x] from (List.append_assoc _ _ _).symm)
          generalize ([] : List It) ++ pre = ls at h15 Hls Hle
          obtain ⟨a5, c5, h16⟩ := h15.lsb_open
          have hb0 := At.cell (i := 0) h16 rfl
          have hx0 := At.cell (i := 0) (b := O) h16.pull3 rfl
          have hx1 := At.cell (i := 1) (b := O) h16.pull3 rfl
          have hx2 := At.cell (i := 2) (b := O) h16.pull3 rfl
          have hx3 := At.cell (i := 3) (b := O) h16.pull3 rfl
          have hx4 := At.cell (i := 4) (b := O) h16.pull3 rfl
          have hlo := Hle.out
          clear hJ2 h15
          gi_wp2_with (gi_at_builtin; go_loud (refine wpListIn_append_row rfl _ _ _ rfl 31 i0 _ 5 56 Try.underlying25 hi0 hz0 hz1 hz2 rfl (by decide) _ _ _ rfl (h16.alloc (.cells #[.int .i64 x.t, .string x.k, .string x.v, .int .i64 x.p, .int .i64 x.s] 31)).pull3 _ 1 1 x.cells rfl rfl (fun j u hu => new_cells rfl j u hu) x.one (by unfold maxLen; omega) (by omega) ?_))
          intro a7 c7 W7 h17
          have hb1 := At.cell (i := 0) h17.pull3 rfl
          have hbf := At.frz h17.pull3 0
          have hbl := At.lt h17.pull3
          clear hb0 hx0 hx1 hx2 hx3 hx4 h16
          gi_wp2
          have h18 := h17.pull3.set' (d := #[.slice a7 (ls.length + 1) c7]) 0 (.slice a7 (ls.length + 1) c7) rfl
          have h19 := At.lsb_shut (l := ls ++ [x]) (v := .slice a7 (ls.length + 1) c7) (by rw [List.length_append, its_snoc]; exact h18.pull2.pull2)
          have h20 := h19.pull2.r.pull2.r
          show At W (((ixb X L) * lsb Lb (([] : List It) ++ (pre ++ [x]))) * B2) _
          rw [Hls.out]
          exact h20.cast (by ac_rfl)
        rotate_left
        · intro o D W1 hJ
          exact hJ.factl.1.elim
        intro D1 u1 h91
        obtain ⟨Mo, hMo⟩ : ∃ N, u1.heap.size = N := ⟨_, rfl⟩
        have h92 := h91.alloc' hMo (.cells #[.int .i64 0] 3)
        rw [List.nil_append] at h92
        clear h91 hon1 h18
        go_wp2_with fail
        clear hMo
        have hon2 := all_on W Y L (by omega)
        refine wpIn_wide.1 (wp_rangeFunc_on (n := 9) (w0 := W) rfl (enters_of Try.func16 (by kernel_rfl) rfl) hon2 (fun _ => rfl)
          (fun pre => cel Mo #[.int .i64 (pre.length : Int)] 3 * lsb Lb L) (fun _ => fact False) (pt D1 (.deferred (some [])) * (ixb X L * (pt FB (.cells #[.int .i64 it, .string i.k, .string i.v, .int .i64 i.p, .int .i64 i.s] 31) * (cel BI #[.int .i64 it, .string i.k, .string i.v, .int .i64 i.p, .int .i64 i.s] 31 * (cel RB #[.bool false] 4 * (old W * 1)))))) (h92.cast (show _ = ixb Y L * ((cel Mo #[.int .i64 0] 3 * lsb Lb L) * (pt D1 (.deferred (some [])) * (ixb X L * (pt FB (.cells #[.int .i64 it, .string i.k, .string i.v, .int .i64 i.p, .int .i64 i.s] 31) * (cel BI #[.int .i64 it, .string i.k, .string i.v, .int .i64 i.p, .int .i64 i.s] 31 * (cel RB #[.bool false] 4 * (old W * 1))))))) by
            show pt Mo _ * _ = _
            show cel Mo _ _ * _ = _
            ac_rfl)) ?_ ?_ ?_)
        · intro l pre x B1 W1 hp hJ
          simp only [encIt]
          obtain ⟨hpl, hpx⟩ := pre_get hp
          gi_wp2
          obtain ⟨O, hO⟩ : ∃ N, W1.heap.size = N := ⟨_, rfl⟩
          have hJ1 := (hJ.alloc' hO (.cells #[.int .i64 x.t, .string x.k, .string x.v, .int .i64 x.p, .int .i64 x.s] 31)).cast (show _ = (pt O (.cells #[.int .i64 x.t, .string x.k, .string x.v, .int .i64 x.p, .int .i64 x.s] 31) * (ixb Y L * (cel Mo #[.int .i64 (pre.length : Int)] 3 * lsb Lb L))) * B1 by ac_rfl)
          rw [hO]
          clear hO
          refine ⟨_, hJ1, fun B2 W2 hJ2 => ?_⟩
          clear hJ hJ1 hp
          have h15 := hJ2.cast (show _ = lsb Lb L * (cel Mo #[.int .i64 (pre.length : Int)] 3 * (pt O (.cells #[.int .i64 x.t, .string x.k, .string x.v, .int .i64 x.p, .int .i64 x.s] 31) * (ixb Y L * B2))) by ac_rfl)
          obtain ⟨a5, c5, h16⟩ := h15.lsb_open
          obtain ⟨p1, q1, e1, hle1, hcell1⟩ := h16.pull2.row_ptr (by omega)
          cases e1
          obtain ⟨y0, y1, y2, y3, y4⟩ := its_five hpl
          rw [hpx] at y0 y1 y2 y3 y4
          have c10 := hcell1 _ _ y0
          have c11 := hcell1 _ _ y1
          have c12 := hcell1 _ _ y2
          have c13 := hcell1 _ _ y3
          have c14 := hcell1 _ _ y4
          have hb0 := At.cell (i := 0) h16 rfl
          have hm0 := At.cell (i := 0) h16.pull3 rfl
          have hmf := At.frz h16.pull3 0
          have hml := At.lt h16.pull3
          have hx0 := At.cell (i := 0) (b := O) h16.pull4 rfl
          have hx1 := At.cell (i := 1) (b := O) h16.pull4 rfl
          have hx2 := At.cell (i := 2) (b := O) h16.pull4 rfl
          have hx3 := At.cell (i := 3) (b := O) h16.pull4 rfl
          have hx4 := At.cell (i := 4) (b := O) h16.pull4 rfl
          have hne : ((pre.length : Int) == (L.length : Int)) = false := by rw [beq_eq_false_iff_ne]; omega
          clear hcell1 y0 y1 y2 y3 y4 hpx hJ2 h16
          gi_wp2
          refine wpIn_region_line [0, 1, 2, 3, 4, 5, 6, 7, 8, 9, 10, 11] rfl (by kernel_rfl) rfl ?_
          simp only [picks_cons, picks_nil, getD_zero, getD_succ]
          go_wp2_with fail
          refine ⟨by kernel_rfl, ?_⟩
          gi_wp2
          have h17 := (h15.pull2.drew.set' (d := #[.int .i64 ((pre.length : Int) + 1)]) 0 (.int .i64 ((pre.length : Int) + 1)) rfl)
          show At W ((ixb Y L * (cel Mo #[.int .i64 ((pre ++ [x]).length : Int)] 3 * lsb Lb L)) * B2) _
          rw [List.length_append, List.length_singleton, show (((pre.length + 1 : Nat) : Int)) = (pre.length : Int) + 1 by omega]
          have h18 := h17.pull3.r
          exact h18.cast (by ac_rfl)
        rotate_left
        · intro o D W1 hJ
          exact hJ.factl.1.elim
        intro D2 u2 h93
        have h94 := h93.cast (show _ = lsb Lb L * (cel Mo #[.int .i64 (L.length : Int)] 3 * (ixb X L * (cel RB #[.bool false] 4 * (pt D2 (.deferred (some [])) * (pt D1 (.deferred (some [])) * (ixb Y L * (pt FB (.cells #[.int .i64 it, .string i.k, .string i.v, .int .i64 i.p, .int .i64 i.s] 31) * (cel BI #[.int .i64 it, .string i.k, .string i.v, .int .i64 i.p, .int .i64 i.s] 31 * (old W * 1))))))))) by ac_rfl)
        obtain ⟨a5, c5, h95⟩ := h94.lsb_open
        have hb0 := At.cell (i := 0) h95 rfl
        have hm0 := At.cell (i := 0) h95.pull3 rfl
        have hln3 := len_any W _ _ X L h94.pull3
        have hr0 := At.cell (i := 0) h94.pull4 rfl
        have hrf := At.frz h94.pull4 0
        have hrl := At.lt h94.pull4
        clear h93 h95 h92 hon2
        go_wp2_with fail
        refine hln3.mono ?_
        rintro e u3 ⟨rfl, rfl⟩
        go_wp2_with fail
        have h96 := (At.set' (d := #[.bool true]) h94.pull4 0 (.bool true) rfl).pull5
        refine ⟨by simp, .inl ⟨_, _, rfl, run_takeDeferred (At.blk h96), ?_⟩⟩
        have h97 := (At.putObj h96 (.deferred none)).pull6
        refine ⟨by simp, .inl ⟨_, _, rfl, run_takeDeferred (At.blk h97), ?_⟩⟩
        have h98 := At.putObj h97 (.deferred none)
        have hc := At.cell (i := 0) h98.pull3 rfl
        refine ⟨.bool true, ?_, rfl, ?_⟩
        · simp [results, Try.results9, go_sem, hc]
        · exact (h98.r.r.r.r.r.r.r.r.r).below
  · have hr0 := At.cell (i := 0) h6 rfl
    have hrf := At.frz h6 0
    have hrl := At.lt h6
    go_wp2_with fail
    have h9 := At.set' (d := #[.bool true]) h6 0 (.bool true) rfl
    have hc := At.cell (i := 0) h9 rfl
    refine ⟨.bool true, ?_, rfl, ?_⟩
    · simp [results, Try.results9, go_sem, hc]
    · exact h9.pull3.below
end Go.Proofs.Ytghlbhnpgbhllaa
