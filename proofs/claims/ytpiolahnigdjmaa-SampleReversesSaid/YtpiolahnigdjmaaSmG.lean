/- Plain laws of samples: lists of bytes and of samples, there and back; groups of bytes reversed. -/
import Derived.Test.YtpiolahnigdjmaaSmF
namespace Go.Proofs.Ytpiolahnigdjmaa
open Am
set_option maxRecDepth 100000
set_option linter.unusedVariables false
set_option linter.unusedSimpArgs false

theorem chunk_append_left {a b : List Int} {n : Nat} (h : a.length = n) : M.chunk (a ++ b) 0 n = a := by
  unfold M.chunk; rw [List.drop_zero, List.take_left' h]
theorem chunk_append_right {a b : List Int} {n m : Nat} (h : a.length = n) (i : Nat) : M.chunk (a ++ b) (n + i) m = M.chunk b i m := by
  unfold M.chunk; rw [← List.drop_drop, List.drop_left' h]
/-- the chunks of rows of equal length -/
theorem chunk_flatMap (f : Int → List Int) {n : Nat} (hf : ∀ x, (f x).length = n) : ∀ (l : List Int) (j : Nat), j < l.length → M.chunk (l.flatMap f) (n * j) n = f (l.getD j 0)
  | x :: l, 0, _ => by
    rw [List.flatMap_cons, Nat.mul_zero, chunk_append_left (hf x)]; rfl
  | x :: l, j + 1, h => by
    rw [List.flatMap_cons, Nat.mul_succ, Nat.add_comm, chunk_append_right (hf x), chunk_flatMap f hf l j (by simpa using h)]
    simp
theorem flatMap_len (f : Int → List Int) {n : Nat} (hf : ∀ x, (f x).length = n) : ∀ (l : List Int), (l.flatMap f).length = n * l.length
  | [] => rfl
  | x :: l => by rw [List.flatMap_cons, List.length_append, hf, flatMap_len f hf l, List.length_cons, Nat.mul_succ]; omega
theorem map_range_getD (g : Int → Int) (l : List Int) : (List.range l.length).map (fun j => g (l.getD j 0)) = l.map g := by
  refine List.ext_getElem (by simp) fun i h1 h2 => ?_
  simp only [List.length_map, List.length_range] at h1
  simp [List.getElem?_eq_getElem h1]
/-- samples that are written and read again -/
theorem dec_flatMap {sz : Int} {bg : Bool} (hf : M.okF sz bg = true) {l : List Int} (hl : ∀ s ∈ l, M.smp s = true) : M.decAll sz bg (l.flatMap (M.encS sz bg)) = l.map (again sz) := by
  obtain ⟨z1, z2, z3⟩ := okF_sz hf
  have hlen : (l.flatMap (M.encS sz bg)).length = sz.toNat * l.length := flatMap_len _ (fun x => wr_len _ _ _) l
  unfold M.decAll
  rw [hlen, Nat.mul_div_cancel_left _ (by omega)]
  unfold M.decN
  rw [← map_range_getD]
  refine List.map_congr_left fun j hj => ?_
  rw [List.mem_range] at hj
  rw [chunk_flatMap (M.encS sz bg) (fun x => wr_len _ _ _) l j hj]
  refine dec_enc hf (hl _ ?_)
  rw [List.getD_eq_getElem?_getD, List.getElem?_eq_getElem hj]
  exact List.getElem_mem hj
theorem take_chunk (l : List Int) (i n : Nat) : l.take i ++ M.chunk l i n = l.take (i + n) := by
  unfold M.chunk; rw [List.take_add]
/-- bytes that are read and written again -/
theorem enc_decN {sz : Int} {bg : Bool} (hf : M.okF sz bg = true) (h3 : sz ≤ 3) {S : List Int} (hb : M.byt S = true) : ∀ (n : Nat), sz.toNat * n ≤ S.length → (M.decN sz bg S n).flatMap (M.encS sz bg) = S.take (sz.toNat * n)
  | 0, _ => by simp [M.decN]
  | n + 1, h => by
    obtain ⟨z1, z2, z3⟩ := okF_sz hf
    have hle : sz.toNat * n + sz.toNat ≤ S.length := by rw [Nat.mul_succ] at h; exact h
    rw [decN_snoc, List.flatMap_append, enc_decN hf h3 hb n (by omega), Nat.mul_succ, ← take_chunk]
    congr 1
    simp only [List.flatMap_cons, List.flatMap_nil, List.append_nil]
    exact enc_dec hf h3 (by rw [chunk_len hle]; exact z3) (chunk_byt hb _ _)
theorem enc_decAll {sz : Int} {bg : Bool} (hf : M.okF sz bg = true) (h3 : sz ≤ 3) {S : List Int} (hb : M.byt S = true) (hm : S.length % sz.toNat = 0) : (M.decAll sz bg S).flatMap (M.encS sz bg) = S := by
  have hd := Nat.div_add_mod S.length sz.toNat
  unfold M.decAll
  rw [enc_decN hf h3 hb _ (by omega), show sz.toNat * (S.length / sz.toNat) = S.length by omega, List.take_length]
theorem decAll_smp (sz : Int) (bg : Bool) (S : List Int) : ∀ s ∈ M.decAll sz bg S, M.smp s = true := by
  intro s hs
  unfold M.decAll M.decN at hs
  obtain ⟨j, _, rfl⟩ := List.mem_map.1 hs
  exact decS_smp _ _ _
theorem all_smp {l : List Int} (h : ∀ s ∈ l, M.smp s = true) : l.all M.smp = true := List.all_eq_true.2 h
theorem byt_flatMap (sz : Int) (bg : Bool) (l : List Int) : M.byt (l.flatMap (M.encS sz bg)) = true := by
  unfold M.byt
  rw [List.all_eq_true]
  intro x hx
  obtain ⟨s, _, hs⟩ := List.mem_flatMap.1 hx
  have := byt_wr sz bg (M.num sz s)
  unfold M.byt at this
  exact List.all_eq_true.1 this x hs
/-- what encoding and decoding give where they refuse nothing -/
theorem enc_ok {k : Int} (h1 : 1 ≤ k) (h2 : k ≤ 7) {l : List Int} (hl : ∀ s ∈ l, M.smp s = true) (hn : l.length ≤ 524288) : M.encE k l = 0 ∧ M.encL k l = l.flatMap (M.encS (M.fsz k) (M.fbg k)) := by
  have hf := kind_okF h1 h2
  have hz : (M.fsz k == 0) = false := by have := okF_sz hf; simp; omega
  have hE : M.encE k l = 0 := by unfold M.encE; rw [hz, decide_eq_false (by omega), all_smp hl]; rfl
  exact ⟨hE, by unfold M.encL; rw [hE]; rfl⟩
theorem dec_ok {k : Int} (h1 : 1 ≤ k) (h2 : k ≤ 7) {l : List Int} (hm : l.length % (M.fsz k).toNat = 0) (hn : l.length ≤ 524288) : M.decE k l = 0 ∧ M.decL k l = M.decAll (M.fsz k) (M.fbg k) l := by
  have hf := kind_okF h1 h2
  have hz : (M.fsz k == 0) = false := by have := okF_sz hf; simp; omega
  have hd : l.length / (M.fsz k).toNat ≤ l.length := Nat.div_le_self _ _
  have hE : M.decE k l = 0 := by unfold M.decE; rw [hz, decide_eq_false (by omega), hm]; rfl
  exact ⟨hE, by unfold M.decL; rw [hE]; rfl⟩
theorem map_again {sz : Int} (hs : sz = 3 ∨ sz = 4) {l : List Int} (hl : ∀ s ∈ l, M.smp s = true) : l.map (again sz) = l := by
  have : l.map (again sz) = l.map id := List.map_congr_left fun s h => again_id hs (hl s h)
  rw [this, List.map_id]
theorem there24 {k : Int} (h1 : 4 ≤ k) (h2 : k ≤ 7) {l : List Int} (hl : ∀ s ∈ l, M.smp s = true) (hn : l.length ≤ 100000) : M.encE k l = 0 ∧ M.byt (M.encL k l) = true ∧ (M.encL k l).length ≤ 400000 ∧ M.decE k (M.encL k l) = 0 ∧ M.decL k (M.encL k l) = l := by
  have hf := kind_okF (show 1 ≤ k by omega) h2
  obtain ⟨z1, z2, z3⟩ := okF_sz hf
  have hs : M.fsz k = 3 ∨ M.fsz k = 4 := by
    rcases kinds k with rfl | rfl | rfl | rfl | rfl | rfl | rfl | ⟨a1, a2, a3, a4, a5, a6, a7⟩ <;> first | omega | exact .inl rfl | exact .inr rfl | (simp at a1 a2 a3 a4 a5 a6 a7; omega)
  obtain ⟨hE, hL⟩ := enc_ok (show 1 ≤ k by omega) h2 hl (by omega)
  have hlen : (l.flatMap (M.encS (M.fsz k) (M.fbg k))).length = (M.fsz k).toNat * l.length := flatMap_len _ (fun x => wr_len _ _ _) l
  have hle : (M.fsz k).toNat * l.length ≤ 4 * 100000 := Nat.mul_le_mul (by omega) hn
  obtain ⟨dE, dL⟩ := dec_ok (show 1 ≤ k by omega) h2 (l := M.encL k l) (by rw [hL, hlen]; exact Nat.mul_mod_right _ _) (by rw [hL, hlen]; omega)
  refine ⟨hE, by rw [hL]; exact byt_flatMap _ _ _, by rw [hL, hlen]; omega, dE, ?_⟩
  rw [dL, hL, dec_flatMap hf hl, map_again hs hl]
theorem back16 {k : Int} (h1 : 1 ≤ k) (h2 : k ≤ 5) {b : List Int} (hb : M.byt b = true) (hm : b.length % 6 = 0) (hn : b.length ≤ 100000) : M.decE k b = 0 ∧ M.encE k (M.decL k b) = 0 ∧ M.encL k (M.decL k b) = b := by
  have hf := kind_okF h1 (show k ≤ 7 by omega)
  obtain ⟨z1, z2, z3⟩ := okF_sz hf
  have hs : M.fsz k = 1 ∨ M.fsz k = 2 ∨ M.fsz k = 3 := by
    rcases kinds k with rfl | rfl | rfl | rfl | rfl | rfl | rfl | ⟨a1, a2, a3, a4, a5, a6, a7⟩ <;> first | omega | exact .inl rfl | exact .inr (.inl rfl) | exact .inr (.inr rfl) | (simp at a1 a2 a3 a4 a5 a6 a7; omega)
  have hmm : b.length % (M.fsz k).toNat = 0 := by rcases hs with h | h | h <;> rw [h] <;> simp <;> omega
  obtain ⟨dE, dL⟩ := dec_ok h1 (show k ≤ 7 by omega) hmm (by omega)
  have hlen : (M.decAll (M.fsz k) (M.fbg k) b).length ≤ b.length := by unfold M.decAll; rw [decN_len]; exact Nat.div_le_self _ _
  obtain ⟨hE, hL⟩ := enc_ok h1 (show k ≤ 7 by omega) (l := M.decAll (M.fsz k) (M.fbg k) b) (decAll_smp _ _ _) (by omega)
  rw [dL]
  exact ⟨dE, hE, by rw [hL, enc_decAll hf (by omega) hb hmm]⟩

/-! ### groups reversed -/
namespace M
def revG (n : Nat) (b : List Int) : List Int := (List.range b.length).map fun i => b.getD (i / n * n + (n - 1 - i % n)) 0
def okG (n : Int) (b : List Int) : Bool := decide (2 ≤ n) && decide (n ≤ 4) && decide (b.length % n.toNat = 0) && decide (b.length ≤ 1000000)
end M
theorem revG_len (n : Nat) (b : List Int) : (M.revG n b).length = b.length := by simp [M.revG]
theorem revG_get {n : Nat} {b : List Int} {i : Nat} (hi : i < b.length) : (M.revG n b).getD i 0 = b.getD (i / n * n + (n - 1 - i % n)) 0 := by
  unfold M.revG
  rw [List.getD_eq_getElem?_getD, List.getElem?_map, List.getElem?_range hi]; rfl
theorem chunk_get {l : List Int} {i n j : Nat} (hj : j < n) : (M.chunk l i n).getD j 0 = l.getD (i + j) 0 := by
  unfold M.chunk
  rw [List.getD_eq_getElem?_getD, List.getElem?_take_of_lt hj, List.getElem?_drop, List.getD_eq_getElem?_getD]
theorem chunk_revG {n : Nat} (hn : 0 < n) {b : List Int} {q : Nat} (h : n * q + n ≤ b.length) : M.chunk (M.revG n b) (n * q) n = (M.chunk b (n * q) n).reverse := by
  have l1 : (M.chunk (M.revG n b) (n * q) n).length = n := chunk_len (by rw [revG_len]; exact h)
  have l2 : (M.chunk b (n * q) n).length = n := chunk_len h
  refine List.ext_getElem (by rw [l1, List.length_reverse, l2]) fun i h1 h2 => ?_
  have hi : i < n := by omega
  have a := chunk_get (l := M.revG n b) (i := n * q) hi
  rw [revG_get (by omega)] at a
  have c := chunk_get (l := b) (i := n * q) (n := n) (j := n - 1 - i) (by omega)
  have hq : (n * q + i) / n = q := by rw [Nat.mul_add_div hn, Nat.div_eq_of_lt hi, Nat.add_zero]
  have hr : (n * q + i) % n = i := by rw [Nat.mul_add_mod, Nat.mod_eq_of_lt hi]
  rw [hq, hr, Nat.mul_comm q n, ← c] at a
  rw [List.getD_eq_getElem?_getD, List.getElem?_eq_getElem h1, List.getD_eq_getElem?_getD, List.getElem?_eq_getElem (by omega)] at a
  rw [List.getElem_reverse]
  simp only [Option.getD_some] at a
  rw [a]
  congr 1
  omega
/-- a list told by its groups -/
theorem by_chunks {n : Nat} (hn : 0 < n) {a b : List Int} (hl : a.length = b.length) (hm : a.length % n = 0) (h : ∀ q, n * q + n ≤ a.length → M.chunk a (n * q) n = M.chunk b (n * q) n) : a = b := by
  refine List.ext_getElem hl fun i h1 h2 => ?_
  have hd := Nat.div_add_mod i n
  have hr := Nat.mod_lt i hn
  have hA := Nat.div_add_mod a.length n
  have hlt : i / n < a.length / n := by
    refine (Nat.div_lt_iff_lt_mul hn).2 ?_
    rw [Nat.mul_comm]; omega
  have hle : n * (i / n) + n ≤ a.length := by
    have := Nat.mul_le_mul_left n (show i / n + 1 ≤ a.length / n from hlt)
    rw [Nat.mul_succ] at this; omega
  have e := h (i / n) hle
  have x := chunk_get (l := a) (i := n * (i / n)) hr
  have y := chunk_get (l := b) (i := n * (i / n)) hr
  rw [e, y, hd] at x
  rw [List.getD_eq_getElem?_getD, List.getElem?_eq_getElem h2, List.getD_eq_getElem?_getD, List.getElem?_eq_getElem h1] at x
  exact x.symm
theorem wr_rev (sz : Int) (n : Int) (h : 1 ≤ sz ∧ sz ≤ 4) : M.wr sz true n = (M.wr sz false n).reverse := by
  have : sz = 1 ∨ sz = 2 ∨ sz = 3 ∨ sz = 4 := by omega
  rcases this with rfl | rfl | rfl | rfl <;> rfl
/-- samples written in the two orders -/
theorem revG_enc {sz : Int} (h : 1 ≤ sz ∧ sz ≤ 4) (l : List Int) : M.revG sz.toNat (l.flatMap (M.encS sz false)) = l.flatMap (M.encS sz true) := by
  have hz : 0 < sz.toNat := by omega
  have l1 : (l.flatMap (M.encS sz false)).length = sz.toNat * l.length := flatMap_len _ (fun x => wr_len _ _ _) l
  have l2 : (l.flatMap (M.encS sz true)).length = sz.toNat * l.length := flatMap_len _ (fun x => wr_len _ _ _) l
  refine by_chunks hz (by rw [revG_len, l1, l2]) (by rw [revG_len, l1]; exact Nat.mul_mod_right _ _) fun q hq => ?_
  rw [revG_len] at hq
  have hql : q < l.length := by
    rw [l1] at hq
    have : sz.toNat * (q + 1) ≤ sz.toNat * l.length := by rw [Nat.mul_succ]; exact hq
    exact Nat.le_of_mul_le_mul_left this hz
  rw [chunk_revG hz hq, chunk_flatMap (M.encS sz false) (fun x => wr_len _ _ _) l q hql, chunk_flatMap (M.encS sz true) (fun x => wr_len _ _ _) l q hql]
  unfold M.encS
  exact (wr_rev sz _ h).symm
theorem decS_rev (sz : Int) (S : List Int) : M.decS sz true S.reverse = M.decS sz false S := rfl
theorem byt_revG {n : Nat} {b : List Int} (h : M.byt b = true) : M.byt (M.revG n b) = true := by
  unfold M.byt at h ⊢
  rw [List.all_eq_true] at h ⊢
  intro x hx
  obtain ⟨i, _, rfl⟩ := List.mem_map.1 hx
  generalize i / n * n + (n - 1 - i % n) = j
  by_cases hj : j < b.length
  · rw [List.getD_eq_getElem?_getD, List.getElem?_eq_getElem hj]; exact h _ (List.getElem_mem hj)
  · rw [List.getD_eq_getElem?_getD, List.getElem?_eq_none (by omega)]; rfl
/-- bytes read in the two orders -/
theorem revG_dec {sz : Int} (h : 1 ≤ sz ∧ sz ≤ 4) (b : List Int) (hm : b.length % sz.toNat = 0) : M.decAll sz true (M.revG sz.toNat b) = M.decAll sz false b := by
  have hz : 0 < sz.toNat := by omega
  unfold M.decAll M.decN
  rw [revG_len]
  refine List.map_congr_left fun j hj => ?_
  rw [List.mem_range] at hj
  have hd := Nat.div_add_mod b.length sz.toNat
  rw [chunk_revG hz (by have := mulL (s := sz.toNat) hj; omega), decS_rev]
/-- so far reversed -/
def revTo (n : Nat) (b : List Int) (i : Nat) : List Int := (List.range i).map (fun i => b.getD (i / n * n + (n - 1 - i % n)) 0) ++ List.replicate (b.length - i) 0
theorem revTo_set {n : Nat} {b : List Int} {i : Nat} (hi : i < b.length) : (revTo n b i).set i (b.getD (i / n * n + (n - 1 - i % n)) 0) = revTo n b (i + 1) := by
  unfold revTo
  rw [List.set_append_right _ _ (by simp)]
  simp only [List.length_map, List.length_range, Nat.sub_self]
  obtain ⟨m, hm⟩ : ∃ m, b.length - i = m + 1 := ⟨b.length - i - 1, by omega⟩
  rw [hm, List.replicate_succ, List.set_cons_zero, List.range_succ, List.map_append, List.append_assoc, show b.length - (i + 1) = m by omega]
  rfl
def vS (b : List Int) (n m i : Int) (o : List Int) : St := ⟨[(0, .vi .u8 b), (1, .int .i64 n), (5, .sl 0 1 0 m.toNat), (12, .int .i64 m), (13, .int .i64 i)], [(0, .fix (.ints .u8 o))], 1⟩
def vK (n i : Int) : Int := M.w64 (M.w64 (M.w64 (M.w64 (M.w64 (i.tdiv n) * n) + n) - 1) - i.tmod n)
theorem vK_eq {n : Int} (h : 2 ≤ n ∧ n ≤ 4) {i : Nat} (hi : i ≤ 1000000) : vK n i = ((i / n.toNat * n.toNat + (n.toNat - 1 - i % n.toNat) : Nat) : Int) := by
  unfold vK
  have : n = 2 ∨ n = 3 ∨ n = 4 := by omega
  rcases this with rfl | rfl | rfl
  · rw [Int.tdiv_eq_ediv_of_nonneg (by omega), Int.tmod_eq_emod_of_nonneg (by omega), w64_in (n := (i : Int) / 2) (by omega) (by omega), w64_in (n := (i : Int) / 2 * 2) (by omega) (by omega), w64_in (n := (i : Int) / 2 * 2 + 2) (by omega) (by omega), w64_in (n := (i : Int) / 2 * 2 + 2 - 1) (by omega) (by omega), w64_in (by omega) (by omega)]
    simp; omega
  · rw [Int.tdiv_eq_ediv_of_nonneg (by omega), Int.tmod_eq_emod_of_nonneg (by omega), w64_in (n := (i : Int) / 3) (by omega) (by omega), w64_in (n := (i : Int) / 3 * 3) (by omega) (by omega), w64_in (n := (i : Int) / 3 * 3 + 3) (by omega) (by omega), w64_in (n := (i : Int) / 3 * 3 + 3 - 1) (by omega) (by omega), w64_in (by omega) (by omega)]
    simp; omega
  · rw [Int.tdiv_eq_ediv_of_nonneg (by omega), Int.tmod_eq_emod_of_nonneg (by omega), w64_in (n := (i : Int) / 4) (by omega) (by omega), w64_in (n := (i : Int) / 4 * 4) (by omega) (by omega), w64_in (n := (i : Int) / 4 * 4 + 4) (by omega) (by omega), w64_in (n := (i : Int) / 4 * 4 + 4 - 1) (by omega) (by omega), w64_in (by omega) (by omega)]
    simp; omega
theorem v_step {R : Type} (b : List Int) (n m i : Int) (l : List Int) (K : Kont R) : execK y1 18 0 (ntAt y1.P 18) noCall 0 none (bodyAt y1.P 18 0) (vS b n m i l) (kRes 0 (keep 18 0) K) =
    (bif decide (i < m) then (bif n != 0 && true then (bif n != 0 && true then (bif decide (vK n i < b.length) then (bif decide (0 ≤ vK n i) && decide (vK n i < b.length) && true then (bif decide (0 ≤ i) && decide (i < m.toNat) && true then
      K .normal (vS b n m (M.w64 (i + 1)) (l.set (0 + i.toNat * 1) (b.getD (vK n i).toNat 0))) else none) else none) else K .normal (vS b n m (M.w64 (i + 1)) l)) else none) else none) else K (.exit 0) (vS b n m i l)) := by kernel_rfl

def l_lrev : Nat → St → Option (Bool × Ex × St)
  | 0, ⟨[(0, .vi .u8 b), (1, .int .i64 n), (5, .sl 0 1 0 m0), (12, .int .i64 m), (13, .int .i64 0)], [(0, .fix (.ints .u8 l))], 1⟩ => some (M.okG n b && decide ((b.length : Int) = m) && decide (m0 = m.toNat) && decide (l = List.replicate b.length 0), .exit 0, vS b n b.length b.length (M.revG n.toNat b))
  | _, _ => none
noncomputable def x1 : Cfg := y1.addL 18 0 l_lrev
theorem x1_ok : CfgOK x1 := addL_ok y1_ok (by kernel_rfl) fun lo st ex st' h => by
  unfold l_lrev at h
  split at h
  · simp only [Option.some.injEq, Prod.mk.injEq] at h
    obtain ⟨hc, rfl, rfl⟩ := h
    rename_i b n m0 m l
    simp only [Bool.and_eq_true, decide_eq_true_eq] at hc
    obtain ⟨⟨⟨hg, rfl⟩, rfl⟩, rfl⟩ := hc
    unfold M.okG at hg
    simp only [Bool.and_eq_true, decide_eq_true_eq] at hg
    obtain ⟨⟨⟨h2, h4⟩, hm⟩, hl⟩ := hg
    refine loop_known (m := 0) (kp := keep 18 0) y1_ok noCall_ok ?_
    have e0 : List.replicate b.length (0 : Int) = revTo n.toNat b 0 := by simp [revTo]
    have e1 : M.revG n.toNat b = revTo n.toNat b b.length := by simp [revTo, M.revG]
    rw [e0, e1]
    refine loop_rule (fun i : Nat => vS b n b.length i (revTo n.toNat b i)) (fun i => i ≤ b.length) (fun i => b.length - i) (fun _ => (.exit 0, vS b n b.length b.length (revTo n.toNat b b.length))) (fun i hi => ?_) 0 (Nat.zero_le _)
    by_cases hlt : i < b.length
    · refine .inl ⟨i + 1, hlt, by omega, rfl, fun K' => ?_⟩
      have hk := vK_eq ⟨h2, h4⟩ (show i ≤ 1000000 by omega)
      have hkl : i / n.toNat * n.toNat + (n.toNat - 1 - i % n.toNat) < b.length := by
        have hz : 0 < n.toNat := by omega
        have hd := Nat.div_add_mod i n.toNat
        have hA := Nat.div_add_mod b.length n.toNat
        have hr := Nat.mod_lt i hz
        have hq : i / n.toNat < b.length / n.toNat := (Nat.div_lt_iff_lt_mul hz).2 (by rw [Nat.mul_comm]; omega)
        have hmu := mulL (s := n.toNat) hq
        have hc := Nat.mul_comm (i / n.toNat) n.toNat
        omega
      rw [v_step, hk, decide_eq_true (by omega), decide_eq_true (by omega), decide_eq_true (by omega), decide_eq_true (by omega), show (n != 0) = true by simp; omega, decide_eq_true (by omega), Int.toNat_natCast, Int.toNat_natCast, Nat.mul_one, Nat.zero_add, revTo_set hlt, w64_in (n := (i : Int) + 1) (by omega) (by omega)]
      rfl
    · have : i = b.length := by omega
      subst this
      refine .inr ⟨⟨0, .inl rfl⟩, fun K' => ?_⟩
      rw [v_step, decide_eq_false (by omega)]
      rfl
  · cases h

theorem e_reversed (b : List Int) (n : Int) (hc : M.okG n b = true) : Ev (callB x1 noCall 0 18 [.vi .u8 b, .int .i64 n] [] 0) (.vi .u8 (M.revG n.toNat b)) := by
  rw [show callB x1 noCall 0 18 [.vi .u8 b, .int .i64 n] [] 0 = (bif true && decide ((b.length : Int) ≤ b.length) && decide ((b.length : Int) ≤ 4294967296) && true then (bif M.okG n b && decide ((b.length : Int) = b.length) && decide ((b.length : Int).toNat = (b.length : Int).toNat) && decide (List.replicate (b.length : Int).toNat (0 : Int) = List.replicate b.length 0) then some (.vi .u8 (((M.revG n.toNat b).drop 0).take (b.length : Int).toNat), [], 0) else none) else none) by kernel_rfl]
  have hg := hc
  unfold M.okG at hg
  simp only [Bool.and_eq_true, decide_eq_true_eq] at hg
  rw [hc, decide_eq_true (Int.le_refl _), decide_eq_true (by omega), decide_eq_true rfl, decide_eq_true rfl, decide_eq_true (by rw [Int.toNat_natCast]), List.drop_zero, List.take_of_length_le (by rw [revG_len, Int.toNat_natCast]; exact Nat.le_refl _)]
  exact ⟨_, [], 0, rfl, rfl, .refl _⟩
def m_reversed : List AV → Option (Bool × AV)
  | [b_, .int .i64 n] => (asVi .u8 b_).bind fun b => some (M.okG n b, .vi .u8 (M.revG n.toNat b))
  | _ => none
noncomputable def x2 : Cfg := x1.add 18 m_reversed
theorem x2_ok : CfgOK x2 := add_ok x1_ok fun xs v h => by
  unfold m_reversed at h; split at h
  · obtain ⟨b, h_b, h⟩ := Option.bind_eq_some_iff.1 h
    simp only [Option.some.injEq, Prod.mk.injEq] at h; obtain ⟨h1, rfl⟩ := h
    exact Ev.pure x1_ok noCall_ok (e_reversed _ _ h1) (.cons (.leaf (asVi_le h_b)) (.cons (.leaf (.refl _)) (.refl _)))
  · cases h

end Go.Proofs.Ytpiolahnigdjmaa
