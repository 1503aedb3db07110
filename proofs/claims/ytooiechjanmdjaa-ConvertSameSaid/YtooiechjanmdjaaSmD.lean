/- The models of samples: decoding. -/
import Derived.Test.YtooiechjanmdjaaSmC
namespace Go.Proofs.Ytooiechjanmdjaa
open Am
set_option maxRecDepth 100000
set_option linter.unusedVariables false
set_option linter.unusedSimpArgs false

namespace M
def chunk (l : List Int) (i n : Nat) : List Int := (l.drop i).take n
def decN (sz : Int) (bg : Bool) (l : List Int) (n : Nat) : List Int := (List.range n).map fun j => decS sz bg (chunk l (sz.toNat * j) sz.toNat)
def decAll (sz : Int) (bg : Bool) (l : List Int) : List Int := decN sz bg l (l.length / sz.toNat)
def okD (sz : Int) (bg : Bool) (l : List Int) : Bool := okF sz bg && byt l && decide (l.length % sz.toNat = 0) && decide (l.length / sz.toNat ≤ 524288)
def decE (k : Int) (l : List Int) : Int := bif fsz k == 0 then 1 else bif decide (l.length / (fsz k).toNat > 524288) then 3 else bif decide (l.length % (fsz k).toNat = 0) then 0 else 4
def decL (k : Int) (l : List Int) : List Int := bif decE k l == 0 then decAll (fsz k) (fbg k) l else []
end M
theorem chunk_byt {l : List Int} (h : M.byt l = true) (i n : Nat) : M.byt (M.chunk l i n) = true := by
  simp only [M.byt, M.chunk, List.all_eq_true] at h ⊢
  exact fun x hx => h x (List.mem_of_mem_drop (List.mem_of_mem_take hx))
theorem chunk_len {l : List Int} {i n : Nat} (h : i + n ≤ l.length) : (M.chunk l i n).length = n := by simp [M.chunk]; omega
theorem decN_snoc (sz : Int) (bg : Bool) (l : List Int) (n : Nat) : M.decN sz bg l (n + 1) = M.decN sz bg l n ++ [M.decS sz bg (M.chunk l (sz.toNat * n) sz.toNat)] := by
  simp [M.decN, List.range_succ]
theorem decN_len (sz : Int) (bg : Bool) (l : List Int) (n : Nat) : (M.decN sz bg l n).length = n := by simp [M.decN]
theorem okF_sz {sz : Int} {bg : Bool} (h : M.okF sz bg = true) : 1 ≤ sz ∧ sz ≤ 4 ∧ ((sz.toNat : Nat) : Int) = sz := by
  rcases okF_cases h with ⟨rfl, _⟩ | ⟨rfl, _⟩ | ⟨rfl, _⟩ | ⟨rfl, _⟩ | ⟨rfl, _⟩ | ⟨rfl, _⟩ | ⟨rfl, _⟩ <;> decide
def dS (sz : Int) (bg : Bool) (l : List Int) (i : Int) (a : List Int) : St := ⟨[(1, .vi .u8 l), (6, .ptr 0 0 2), (7, .gsl 1 0), (8, .int .i64 i)], [(1, .grow 1 0 (.ints .i32 a)), (0, .fix (.cells [.int .i64 sz, .bool bg]))], 2⟩
theorem d_step {R : Type} (sz : Int) (bg : Bool) (hf : M.okF sz bg = true) (l : List Int) (i : Int) (a : List Int) (K : Kont R) : execK s13 72 0 (ntAt s13.P 72) noCall 0 none (bodyAt s13.P 72 1) (dS sz bg l i a) (kRes 0 (keep 72 1) K) =
    (bif decide (i < l.length) then (bif decide (0 ≤ i) && decide (i ≤ M.w64 (i + sz)) && decide (M.w64 (i + sz) ≤ l.length) && true then (bif M.okR sz bg ((l.drop (i.toNat * 1)).take (((M.w64 (i + sz)).toNat - i.toNat) * 1)) && true then (bif Nat.ble (a.length + 1) 4294967296 && true then
      K .normal (dS sz bg l (M.w64 (i + sz)) (a ++ [M.decS sz bg ((l.drop (i.toNat * 1)).take (((M.w64 (i + sz)).toNat - i.toNat) * 1))])) else none) else none) else none) else K (.exit 1) (dS sz bg l i a)) := by
  rcases okF_cases hf with ⟨rfl, rfl⟩ | ⟨rfl, rfl⟩ | ⟨rfl, rfl⟩ | ⟨rfl, rfl⟩ | ⟨rfl, rfl⟩ | ⟨rfl, rfl⟩ | ⟨rfl, rfl⟩
  · kernel_rfl
  · kernel_rfl
  · kernel_rfl
  · kernel_rfl
  · kernel_rfl
  · kernel_rfl
  · kernel_rfl
theorem okR_chunk {sz : Int} {bg : Bool} (hf : M.okF sz bg = true) {l : List Int} (hb : M.byt l = true) {i : Nat} (h : i + sz.toNat ≤ l.length) : M.okR sz bg (M.chunk l i sz.toNat) = true := by
  unfold M.okR
  rw [hf, chunk_len h, chunk_byt hb, (okF_sz hf).2.2, decide_eq_true rfl]; rfl
theorem slice_chunk {l : List Int} {i n : Nat} {sz : Int} (h : ((n : Nat) : Int) = sz) : (l.drop (((i : Nat) : Int).toNat * 1)).take ((((i + n : Nat) : Int).toNat - ((i : Nat) : Int).toNat) * 1) = M.chunk l i n := by
  rw [Int.toNat_natCast, Int.toNat_natCast, Nat.mul_one, Nat.mul_one, Nat.add_sub_cancel_left]; rfl
theorem mulL {s j n : Nat} (h : j < n) : s * j + s ≤ s * n := by
  have := Nat.mul_le_mul_left s (show j + 1 ≤ n from h)
  rw [Nat.mul_succ] at this; exact this

def l_Dec : Nat → St → Option (Bool × Ex × St)
  | 0, ⟨[(1, .vi .u8 l), (6, .ptr 0 0 2), (7, .gsl 1 0), (8, .int .i64 0)], [(1, .grow 1 0 (.ints .i32 [])), (0, .fix (.cells [.int .i64 sz, .bool bg]))], 2⟩ => some (M.okD sz bg l, .exit 1, dS sz bg l l.length (M.decAll sz bg l))
  | _, _ => none
noncomputable def t1 : Cfg := s13.addL 72 1 l_Dec
theorem t1_ok : CfgOK t1 := addL_ok s13_ok (by kernel_rfl) fun lo st ex st' h => by
  unfold l_Dec at h
  split at h
  · simp only [Option.some.injEq, Prod.mk.injEq] at h
    obtain ⟨hc, rfl, rfl⟩ := h
    rename_i l sz bg
    unfold M.okD at hc
    simp only [Bool.and_eq_true, decide_eq_true_eq] at hc
    obtain ⟨⟨⟨hf, hb⟩, hm⟩, hn⟩ := hc
    obtain ⟨z1, z2, z3⟩ := okF_sz hf
    refine loop_known (m := 0) (kp := keep 72 1) s13_ok noCall_ok ?_
    have hlen : sz.toNat * (l.length / sz.toNat) = l.length := by have := Nat.div_add_mod l.length sz.toNat; omega
    generalize hN : l.length / sz.toNat = N at hn hlen
    have hfin : dS sz bg l l.length (M.decAll sz bg l) = dS sz bg l (sz.toNat * N : Nat) (M.decN sz bg l N) := by unfold M.decAll; rw [hN, hlen]
    rw [hfin]
    have hbound : l.length ≤ 2097152 := by
      have : sz.toNat * N ≤ 4 * 524288 := Nat.mul_le_mul (by omega) hn
      omega
    refine loop_rule (fun j : Nat => dS sz bg l (sz.toNat * j : Nat) (M.decN sz bg l j)) (fun j => j ≤ N) (fun j => N - j) (fun _ => (.exit 1, dS sz bg l (sz.toNat * N : Nat) (M.decN sz bg l N))) (fun j hj => ?_) 0 (Nat.zero_le _)
    by_cases hlt : j < N
    · refine .inl ⟨j + 1, hlt, by omega, rfl, fun K' => ?_⟩
      have hle : sz.toNat * j + sz.toNat ≤ l.length := by rw [← hlen]; exact mulL hlt
      have hw : M.w64 (((sz.toNat * j : Nat) : Int) + sz) = ((sz.toNat * j + sz.toNat : Nat) : Int) := by rw [w64_in (by omega) (by omega)]; omega
      rw [d_step sz bg hf, hw, slice_chunk z3, okR_chunk hf hb hle, decide_eq_true (by omega), decide_eq_true (by omega), decide_eq_true (by omega), decide_eq_true (by omega), decN_len, Nat.ble_eq_true_of_le (by omega : j + 1 ≤ 4294967296), ← decN_snoc]
      rfl
    · have : j = N := by omega
      subst this
      refine .inr ⟨⟨1, .inl rfl⟩, fun K' => ?_⟩
      rw [d_step sz bg hf, decide_eq_false (by omega)]
      rfl
  · cases h

/-- what the tree of one kind comes to -/
theorem dec_end (k : Int) (l : List Int) (hb : M.byt l = true) (hlt : l.length < 4294967296) (sz : Int) (bg : Bool) (hf : M.okF sz bg = true) (hk : M.fsz k = sz) (hg : M.fbg k = bg) (c : Bool) (hc : l.length / sz.toNat ≤ 524288 → c = true) (X : Option (AV × Upd × Nat)) :
    Ev (bif decide (M.w64 ((l.length : Int).tdiv sz) > 524288) then some (.tuple [.nilsl, .int .i64 3], [], 0) else bif (l.length : Int).tmod sz != 0 then some (.tuple [.nilsl, .int .i64 4], [], 0) else bif c then (bif M.okD sz bg l then some (.tuple [.vi .i32 (M.decAll sz bg l), .int .i64 0], [], 0) else X) else X)
      (.tuple [.vi .i32 (M.decL k l), .int .i64 (M.decE k l)]) := by
  obtain ⟨z1, z2, z3⟩ := okF_sz hf
  have hz : (M.fsz k == 0) = false := by rw [hk]; simp; omega
  have hq : (l.length : Int).tdiv sz = ((l.length / sz.toNat : Nat) : Int) := by rw [← z3, ← Int.ofNat_tdiv, Int.toNat_natCast]
  have hr : (l.length : Int).tmod sz = ((l.length % sz.toNat : Nat) : Int) := by rw [← z3, ← Int.ofNat_tmod, Int.toNat_natCast]
  have hdl : l.length / sz.toNat ≤ l.length := Nat.div_le_self _ _
  have hq0 : (0 : Int) ≤ ((l.length / sz.toNat : Nat) : Int) := Int.natCast_nonneg _
  rw [hq, hr, w64_in (by omega) (by omega)]
  by_cases h1 : l.length / sz.toNat > 524288
  · have hE : M.decE k l = 3 := by unfold M.decE; rw [hz, hk, decide_eq_true h1]; rfl
    have hL : M.decL k l = [] := by unfold M.decL; rw [hE]; rfl
    rw [hE, hL, decide_eq_true (by omega)]
    exact ⟨_, [], 0, rfl, rfl, .tuple (.cons (.leaf (.nil _)) (.refl _))⟩
  · rw [decide_eq_false (by omega)]
    by_cases h2 : l.length % sz.toNat = 0
    · have hE : M.decE k l = 0 := by unfold M.decE; rw [hz, hk, decide_eq_false h1, decide_eq_true h2]; rfl
      have hL : M.decL k l = M.decAll sz bg l := by unfold M.decL; rw [hE, hk, hg]; rfl
      have hD : M.okD sz bg l = true := by unfold M.okD; rw [hf, hb, decide_eq_true h2, decide_eq_true (by omega)]; rfl
      rw [hE, hL, h2, hc (by omega), hD]
      exact ⟨_, [], 0, rfl, rfl, .refl _⟩
    · have hE : M.decE k l = 4 := by unfold M.decE; rw [hz, hk, decide_eq_false h1, decide_eq_false h2]; rfl
      have hL : M.decL k l = [] := by unfold M.decL; rw [hE]; rfl
      have hne : (((l.length % sz.toNat : Nat) : Int) != 0) = true := bne_iff_ne.2 fun h => h2 (by exact_mod_cast h)
      rw [hE, hL, hne]
      exact ⟨_, [], 0, rfl, rfl, .tuple (.cons (.leaf (.nil _)) (.refl _))⟩

theorem e_Decode (k : Int) (l : List Int) (hc : (M.byt l && decide (l.length < 4294967296)) = true) : Ev (callB t1 noCall 0 72 [.int .i64 k, .vi .u8 l] [] 0) (.tuple [.vi .i32 (M.decL k l), .int .i64 (M.decE k l)]) := by
  rw [show callB t1 noCall 0 72 [.int .i64 k, .vi .u8 l] [] 0 = (bif k == 1 then (bif decide (M.w64 ((l.length : Int).tdiv 1) > 524288) then some (.tuple [.nilsl, .int .i64 3], [], 0) else bif (l.length : Int).tmod 1 != 0 then some (.tuple [.nilsl, .int .i64 4], [], 0) else bif decide (0 ≤ M.w64 ((l.length : Int).tdiv 1)) && decide (M.w64 ((l.length : Int).tdiv 1) ≤ 4294967296) && true then (bif M.okD 1 false l then some (.tuple [.vi .i32 (M.decAll 1 false l), .int .i64 0], [], 0) else none) else none) else bif k == 2 then (bif decide (M.w64 ((l.length : Int).tdiv 2) > 524288) then some (.tuple [.nilsl, .int .i64 3], [], 0) else bif (l.length : Int).tmod 2 != 0 then some (.tuple [.nilsl, .int .i64 4], [], 0) else bif decide (0 ≤ M.w64 ((l.length : Int).tdiv 2)) && decide (M.w64 ((l.length : Int).tdiv 2) ≤ 4294967296) && true then (bif M.okD 2 false l then some (.tuple [.vi .i32 (M.decAll 2 false l), .int .i64 0], [], 0) else none) else none) else bif k == 3 then (bif decide (M.w64 ((l.length : Int).tdiv 2) > 524288) then some (.tuple [.nilsl, .int .i64 3], [], 0) else bif (l.length : Int).tmod 2 != 0 then some (.tuple [.nilsl, .int .i64 4], [], 0) else bif decide (0 ≤ M.w64 ((l.length : Int).tdiv 2)) && decide (M.w64 ((l.length : Int).tdiv 2) ≤ 4294967296) && true then (bif M.okD 2 true l then some (.tuple [.vi .i32 (M.decAll 2 true l), .int .i64 0], [], 0) else none) else none) else bif k == 4 then (bif decide (M.w64 ((l.length : Int).tdiv 3) > 524288) then some (.tuple [.nilsl, .int .i64 3], [], 0) else bif (l.length : Int).tmod 3 != 0 then some (.tuple [.nilsl, .int .i64 4], [], 0) else bif decide (0 ≤ M.w64 ((l.length : Int).tdiv 3)) && decide (M.w64 ((l.length : Int).tdiv 3) ≤ 4294967296) && true then (bif M.okD 3 false l then some (.tuple [.vi .i32 (M.decAll 3 false l), .int .i64 0], [], 0) else none) else none) else bif k == 5 then (bif decide (M.w64 ((l.length : Int).tdiv 3) > 524288) then some (.tuple [.nilsl, .int .i64 3], [], 0) else bif (l.length : Int).tmod 3 != 0 then some (.tuple [.nilsl, .int .i64 4], [], 0) else bif decide (0 ≤ M.w64 ((l.length : Int).tdiv 3)) && decide (M.w64 ((l.length : Int).tdiv 3) ≤ 4294967296) && true then (bif M.okD 3 true l then some (.tuple [.vi .i32 (M.decAll 3 true l), .int .i64 0], [], 0) else none) else none) else bif k == 6 then (bif decide (M.w64 ((l.length : Int).tdiv 4) > 524288) then some (.tuple [.nilsl, .int .i64 3], [], 0) else bif (l.length : Int).tmod 4 != 0 then some (.tuple [.nilsl, .int .i64 4], [], 0) else bif decide (0 ≤ M.w64 ((l.length : Int).tdiv 4)) && decide (M.w64 ((l.length : Int).tdiv 4) ≤ 4294967296) && true then (bif M.okD 4 false l then some (.tuple [.vi .i32 (M.decAll 4 false l), .int .i64 0], [], 0) else none) else none) else bif k == 7 then (bif decide (M.w64 ((l.length : Int).tdiv 4) > 524288) then some (.tuple [.nilsl, .int .i64 3], [], 0) else bif (l.length : Int).tmod 4 != 0 then some (.tuple [.nilsl, .int .i64 4], [], 0) else bif decide (0 ≤ M.w64 ((l.length : Int).tdiv 4)) && decide (M.w64 ((l.length : Int).tdiv 4) ≤ 4294967296) && true then (bif M.okD 4 true l then some (.tuple [.vi .i32 (M.decAll 4 true l), .int .i64 0], [], 0) else none) else none) else some (.tuple [.nilsl, .int .i64 1], [], 0)) by kernel_rfl]
  rw [Bool.and_eq_true] at hc
  obtain ⟨hb, hlt⟩ := hc
  have hlt := of_decide_eq_true hlt
  rcases kinds k with rfl | rfl | rfl | rfl | rfl | rfl | rfl | ⟨h1, h2, h3, h4, h5, h6, h7⟩
  · refine dec_end 1 l hb hlt 1 false rfl rfl rfl _ (fun h => ?_) none
    rw [show (l.length : Int).tdiv 1 = ((l.length / 1 : Nat) : Int) from rfl, w64_in (by omega) (by omega), decide_eq_true (by omega), decide_eq_true (by have : (1 : Int).toNat = 1 := rfl; omega)]; rfl
  · refine dec_end 2 l hb hlt 2 false rfl rfl rfl _ (fun h => ?_) none
    rw [show (l.length : Int).tdiv 2 = ((l.length / 2 : Nat) : Int) from rfl, w64_in (by omega) (by omega), decide_eq_true (by omega), decide_eq_true (by have : (2 : Int).toNat = 2 := rfl; omega)]; rfl
  · refine dec_end 3 l hb hlt 2 true rfl rfl rfl _ (fun h => ?_) none
    rw [show (l.length : Int).tdiv 2 = ((l.length / 2 : Nat) : Int) from rfl, w64_in (by omega) (by omega), decide_eq_true (by omega), decide_eq_true (by have : (2 : Int).toNat = 2 := rfl; omega)]; rfl
  · refine dec_end 4 l hb hlt 3 false rfl rfl rfl _ (fun h => ?_) none
    rw [show (l.length : Int).tdiv 3 = ((l.length / 3 : Nat) : Int) from rfl, w64_in (by omega) (by omega), decide_eq_true (by omega), decide_eq_true (by have : (3 : Int).toNat = 3 := rfl; omega)]; rfl
  · refine dec_end 5 l hb hlt 3 true rfl rfl rfl _ (fun h => ?_) none
    rw [show (l.length : Int).tdiv 3 = ((l.length / 3 : Nat) : Int) from rfl, w64_in (by omega) (by omega), decide_eq_true (by omega), decide_eq_true (by have : (3 : Int).toNat = 3 := rfl; omega)]; rfl
  · refine dec_end 6 l hb hlt 4 false rfl rfl rfl _ (fun h => ?_) none
    rw [show (l.length : Int).tdiv 4 = ((l.length / 4 : Nat) : Int) from rfl, w64_in (by omega) (by omega), decide_eq_true (by omega), decide_eq_true (by have : (4 : Int).toNat = 4 := rfl; omega)]; rfl
  · refine dec_end 7 l hb hlt 4 true rfl rfl rfl _ (fun h => ?_) none
    rw [show (l.length : Int).tdiv 4 = ((l.length / 4 : Nat) : Int) from rfl, w64_in (by omega) (by omega), decide_eq_true (by omega), decide_eq_true (by have : (4 : Int).toNat = 4 := rfl; omega)]; rfl
  · simp only [h1, h2, h3, h4, h5, h6, h7, cond_false]
    have hE : M.decE k l = 1 := by unfold M.decE M.fsz; simp only [h1, h2, h3, h4, h5, h6, h7, cond_false]; rfl
    have hLL : M.decL k l = [] := by unfold M.decL; rw [hE]; rfl
    rw [hE, hLL]
    exact ⟨_, [], 0, rfl, rfl, .tuple (.cons (.leaf (.nil _)) (.refl _))⟩
def m_Decode : List AV → Option (Bool × AV)
  | [.int .i64 k, l_] => (asVi .u8 l_).bind fun l => some ((M.byt l && decide (l.length < 4294967296)), .tuple [.vi .i32 (M.decL k l), .int .i64 (M.decE k l)])
  | _ => none
noncomputable def t2 : Cfg := t1.add 72 m_Decode
theorem t2_ok : CfgOK t2 := add_ok t1_ok fun xs v h => by
  unfold m_Decode at h; split at h
  · obtain ⟨l, h_l, h⟩ := Option.bind_eq_some_iff.1 h
    simp only [Option.some.injEq, Prod.mk.injEq] at h; obtain ⟨h1, rfl⟩ := h
    exact Ev.pure t1_ok noCall_ok (e_Decode _ _ h1) (.cons (.leaf (.refl _)) (.cons (.leaf (asVi_le h_l)) (.refl _)))
  · cases h

def rdS0 (k sz : Int) (l : List Int) (i : Int) : St := ⟨[(0, .int .i64 k), (1, .vi .u8 l), (6, .int .i64 sz), (7, .nilsl), (8, .int .i64 i)], [], 0⟩
def rdS1 (k sz : Int) (l : List Int) (i : Int) (a : List Int) : St := ⟨[(0, .int .i64 k), (1, .vi .u8 l), (6, .int .i64 sz), (7, .gsl 0 0), (8, .int .i64 i)], [(0, .grow 1 0 (.ints .i32 a))], 1⟩
theorem rint_eq {sz : Int} {bg : Bool} {S : List Int} (h : (S.length : Int) = sz) (h2 : 2 ≤ sz) : M.rint bg S = M.rd sz bg S := by
  unfold M.rint M.rd
  subst h
  rw [decide_eq_true (by omega : (S.length : Int) > 1), Int.toNat_natCast]; rfl
theorem okRI_chunk {sz : Int} {bg : Bool} (hf : M.okF sz bg = true) {l : List Int} (hb : M.byt l = true) {i : Nat} (h : i + sz.toNat ≤ l.length) : M.okRI bg (M.chunk l i sz.toNat) = true := by
  unfold M.okRI
  rw [chunk_len h, chunk_byt hb, (okF_sz hf).2.2, hf]; rfl
theorem chunk_one {l : List Int} {i : Nat} (h : i + 1 ≤ l.length) : M.chunk l i 1 = [l.getD i 0] := by
  unfold M.chunk
  rw [List.drop_eq_getElem_cons (by omega)]
  rw [List.take_succ_cons, List.take_zero, List.getD_eq_getElem?_getD, List.getElem?_eq_getElem (show i < l.length by omega)]; rfl
theorem byt_get {l : List Int} (h : M.byt l = true) {i : Nat} (hi : i < l.length) : 0 ≤ l.getD i 0 ∧ l.getD i 0 ≤ 255 := by
  simp only [M.byt, List.all_eq_true, Bool.and_eq_true, decide_eq_true_eq] at h
  have := h l[i] (List.getElem_mem hi)
  simpa [List.getD_eq_getElem?_getD, List.getElem?_eq_getElem hi] using this

def rdHead (k sz : Int) (l : List Int) : Nat → St
  | 0 => rdS0 k sz l 0
  | j + 1 => rdS1 k sz l ((sz.toNat * (j + 1) : Nat) : Int) (M.decN sz (M.fbg k) l (j + 1))

def l_rDec : Nat → St → Option (List (Bool × Ex × St))
  | 0, ⟨[(0, .int .i64 k), (1, .vi .u8 l), (6, .int .i64 sz), (7, .nilsl), (8, .int .i64 0)], [], 0⟩ => some [(M.okK k sz && M.okD sz (M.fbg k) l && decide (0 < l.length), .exit 1, rdS1 k sz l l.length (M.decAll sz (M.fbg k) l)), (M.okK k sz && M.okD sz (M.fbg k) l, .exit 1, rdS0 k sz l 0)]
  | _, _ => none
noncomputable def t3 : Cfg := t2

theorem t3_ok : CfgOK t3 := t2_ok

theorem rdec_end (k : Int) (l : List Int) (hb : M.byt l = true) (hlt : l.length < 4294967296) (sz : Int) (hk : M.okK k sz = true) : Ev (bif decide (M.w64 ((l.length : Int).tdiv sz) > 524288) then some (.tuple [.nilsl, .int .i64 3], [], 0) else bif (l.length : Int).tmod sz != 0 then some (.tuple [.nilsl, .int .i64 4], [], 0) else bif M.okK k sz && M.okD sz (M.fbg k) l && decide (0 < l.length) then some (.tuple [.vi .i32 (M.decAll sz (M.fbg k) l), .int .i64 0], [], 0) else bif M.okK k sz && M.okD sz (M.fbg k) l then some (.tuple [.nilsl, .int .i64 0], [], 0) else none) (.tuple [.vi .i32 (M.decL k l), .int .i64 (M.decE k l)]) := by
  have hf := okK_okF hk
  have hfz : M.fsz k = sz := by unfold M.okK at hk; rw [Bool.and_eq_true] at hk; exact of_decide_eq_true hk.1
  obtain ⟨z1, z2, z3⟩ := okF_sz hf
  have hz : (M.fsz k == 0) = false := by rw [hfz]; simp; omega
  have hq : (l.length : Int).tdiv sz = ((l.length / sz.toNat : Nat) : Int) := by rw [← z3, ← Int.ofNat_tdiv, Int.toNat_natCast]
  have hr : (l.length : Int).tmod sz = ((l.length % sz.toNat : Nat) : Int) := by rw [← z3, ← Int.ofNat_tmod, Int.toNat_natCast]
  have hdl : l.length / sz.toNat ≤ l.length := Nat.div_le_self _ _
  have hq0 : (0 : Int) ≤ ((l.length / sz.toNat : Nat) : Int) := Int.natCast_nonneg _
  rw [hq, hr, w64_in (by omega) (by omega)]
  by_cases h1 : l.length / sz.toNat > 524288
  · have hE : M.decE k l = 3 := by unfold M.decE; rw [hz, hfz, decide_eq_true h1]; rfl
    have hL : M.decL k l = [] := by unfold M.decL; rw [hE]; rfl
    rw [hE, hL, decide_eq_true (by omega)]
    exact ⟨_, [], 0, rfl, rfl, .tuple (.cons (.leaf (.nil _)) (.refl _))⟩
  · rw [decide_eq_false (by omega)]
    by_cases h2 : l.length % sz.toNat = 0
    · have hE : M.decE k l = 0 := by unfold M.decE; rw [hz, hfz, decide_eq_false h1, decide_eq_true h2]; rfl
      have hL : M.decL k l = M.decAll sz (M.fbg k) l := by unfold M.decL; rw [hE, hfz]; rfl
      have hD : M.okD sz (M.fbg k) l = true := by unfold M.okD; rw [hf, hb, decide_eq_true h2, decide_eq_true (by omega)]; rfl
      rw [hE, hL, h2, hk, hD]
      by_cases h0 : 0 < l.length
      · rw [decide_eq_true h0]
        exact ⟨_, [], 0, rfl, rfl, .refl _⟩
      · have e0 : l = [] := List.length_eq_zero_iff.1 (by omega)
        subst e0
        have : M.decAll sz (M.fbg k) [] = [] := by simp [M.decAll, M.decN]
        rw [this]
        exact ⟨_, [], 0, rfl, rfl, .tuple (.cons (.leaf (.nil _)) (.refl _))⟩
    · have hE : M.decE k l = 4 := by unfold M.decE; rw [hz, hfz, decide_eq_false h1, decide_eq_false h2]; rfl
      have hL : M.decL k l = [] := by unfold M.decL; rw [hE]; rfl
      have hne : (((l.length % sz.toNat : Nat) : Int) != 0) = true := bne_iff_ne.2 fun h => h2 (by exact_mod_cast h)
      rw [hE, hL, hne]
      exact ⟨_, [], 0, rfl, rfl, .tuple (.cons (.leaf (.nil _)) (.refl _))⟩

def m_rDecode : List AV → Option (Bool × AV)
  | [.int .i64 k, l_] => (asVi .u8 l_).bind fun l => some ((M.byt l && decide (l.length < 4294967296)), .tuple [.vi .i32 (M.decL k l), .int .i64 (M.decE k l)])
  | _ => none
noncomputable def t4 : Cfg := t3

theorem t4_ok : CfgOK t4 := t3_ok

end Go.Proofs.Ytooiechjanmdjaa
