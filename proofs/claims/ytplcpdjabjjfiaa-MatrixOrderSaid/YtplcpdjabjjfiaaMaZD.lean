/- MatrixOrder holds for every input: changing only the order of channels and back again changes nothing. -/
import Derived.Test.YtplcpdjabjjfiaaMaR
import Derived.Test.YtplcpdjabjjfiaaAmRow
import Derived.Test.YtplcpdjabjjfiaaRows
namespace Go.Proofs.Ytplcpdjabjjfiaa
open Am
set_option maxRecDepth 100000
set_option linter.unusedVariables false
set_option linter.unusedSimpArgs false
open Go.ChangeShapes Go.WideShapes Go.ChangeAt Go.RowKit
theorem own : ownKnob Try.prog.godebug = none := by kernel_rfl
theorem laidOut : laidOutB Try.prog = true := by kernel_rfl
theorem byt_of_wf {l : List Int} (h : ∀ n ∈ l, (Lit.int .u8 n).wf = true) : M.byt l = true := by
  simp only [M.byt, List.all_eq_true]
  intro n hn
  have := h n hn
  simpa [Lit.wf, IntKind.min, IntKind.max, IntKind.signed, IntKind.bits] using this

noncomputable def ow : Cfg := o2.keepTo 5 0 [2, 4, 6, 7, 101, 102, 103]
theorem ow_ok : CfgOK ow := keepTo_ok o2_ok _ _ _
namespace M
def ordI (p q : List Int) (i : Nat) : Nat := i / p.length * p.length + at_ p q (i % p.length)
def okOrd (p q x b : List Int) : Bool := decide (1 ≤ p.length) && decide (p.length ≤ 8) && decide (q.length = p.length) && allN p.length (fun r => has p (q.getD r 0)) && decide (b.length ≤ 4096) && decide (x.length = b.length) &&
  decide (b.length = b.length / p.length * p.length) && allN x.length (fun i => x.getD i 0 == b.getD (ordI p q i) 0)
end M
theorem okOrd_iff {p q x b : List Int} (h : M.okOrd p q x b = true) : 1 ≤ p.length ∧ p.length ≤ 8 ∧ q.length = p.length ∧ (∀ r, r < p.length → M.has p (q.getD r 0) = true) ∧ b.length ≤ 4096 ∧ x.length = b.length ∧ b.length = b.length / p.length * p.length ∧ ∀ i, i < x.length → x.getD i 0 = b.getD (M.ordI p q i) 0 := by
  unfold M.okOrd at h
  simp only [Bool.and_eq_true, decide_eq_true_eq, allN_iff, beq_iff_eq] at h
  obtain ⟨⟨⟨⟨⟨⟨⟨h1, h2⟩, h3⟩, h4⟩, h5⟩, h6⟩, h7⟩, h8⟩ := h
  exact ⟨h1, h2, h3, h4, h5, h6, h7, h8⟩
theorem w64_nat {k : Nat} (h : k ≤ 4611686018427387904) : M.w64 (k : Int) = k := w64_in (by omega) (by omega)
def oSt (p q x b : List Int) (np n i : Int) : St := ⟨[(2, .bool false), (4, .vi .i64 p), (6, .gsl 1 0), (7, .ptr 3 0 2), (101, .vi .i32 x), (102, .int .i64 n), (103, .int .i64 i)], [(3, .fix (.cells [.int .i64 np, .vi .i32 b])), (1, .grow 1 0 (.ints .i64 q))], 4⟩
theorem o_step {R : Type} (p q x b : List Int) (np n i : Int) (K : Kont R) : execK ow 5 0 (ntAt ow.P 5) noCall 0 none (bodyAt ow.P 5 0) (oSt p q x b np n i) (kRes 0 (some [2, 4, 6, 7, 101, 102, 103]) K) =
    (bif decide (i < n) then (bif decide (0 ≤ i) && decide (i < x.length) && true then (bif (p.length : Int) != 0 && true then (bif (p.length : Int) != 0 && true then (bif decide (0 ≤ i.tmod (p.length : Int)) && decide (i.tmod (p.length : Int) < q.length) && true then (bif decide (p.length < 4294967296) && true then
     (bif decide (0 ≤ M.w64 (M.w64 (M.w64 (i.tdiv (p.length : Int)) * (p.length : Int)) + M.idx p (q.getD (i.tmod (p.length : Int)).toNat 0))) && decide (M.w64 (M.w64 (M.w64 (i.tdiv (p.length : Int)) * (p.length : Int)) + M.idx p (q.getD (i.tmod (p.length : Int)).toNat 0)) < b.length) && true then (bif x.getD i.toNat 0 != b.getD (M.w64 (M.w64 (M.w64 (i.tdiv (p.length : Int)) * (p.length : Int)) + M.idx p (q.getD (i.tmod (p.length : Int)).toNat 0))).toNat 0 then K .ret (oSt p q x b np n i) else K .normal (oSt p q x b np n (M.w64 (i + 1)))) else none) else none) else none) else none) else none) else none) else K (.exit 0) (oSt p q x b np n i)) := by kernel_rfl
theorem ord_lt {p q x b : List Int} (h : M.okOrd p q x b = true) {i : Nat} (hi : i < x.length) : 0 ≤ M.idx p (q.getD (i % p.length) 0) ∧ M.idx p (q.getD (i % p.length) 0) < p.length ∧ M.ordI p q i < b.length ∧ i / p.length ≤ 4096 ∧ i / p.length * p.length ≤ 4096 := by
  obtain ⟨h1, h2, h3, h4, h5, h6, h7, h8⟩ := okOrd_iff h
  rw [h6] at hi
  have hi' : i < b.length / p.length * p.length := by omega
  obtain ⟨a1, a2, a3⟩ := split_at hi'
  have r := has_range (h4 _ a2)
  have hle : i / p.length * p.length + p.length ≤ b.length / p.length * p.length := by rw [← Nat.succ_mul]; exact Nat.mul_le_mul_right _ a1
  have hd : i / p.length ≤ i := Nat.div_le_self _ _
  refine ⟨r.1, r.2, ?_, by omega, by omega⟩
  unfold M.ordI M.at_
  omega
theorem o_next {R : Type} {p q x b : List Int} (np : Int) (h : M.okOrd p q x b = true) (i : Nat) (hi : i < x.length) (K' : Kont R) : execK ow 5 0 (ntAt ow.P 5) noCall 0 none (bodyAt ow.P 5 0) (oSt p q x b np x.length i) (kRes 0 (some [2, 4, 6, 7, 101, 102, 103]) K') = K' .normal (oSt p q x b np x.length (i + 1 : Nat)) := by
  obtain ⟨h1, h2, h3, h4, h5, h6, h7, h8⟩ := okOrd_iff h
  obtain ⟨r1, r2, r3, r4, r5⟩ := ord_lt h hi
  have hv := h8 i hi
  have hi4 : i < 4096 := Nat.lt_of_lt_of_le hi (by rw [h6]; exact h5)
  have hm : i % p.length < p.length := Nat.mod_lt _ h1
  have e1 : M.w64 ((i / p.length : Nat) : Int) = ((i / p.length : Nat) : Int) := w64_nat (Nat.le_trans r4 (by decide))
  have e2 : ((i / p.length : Nat) : Int) * (p.length : Int) = ((i / p.length * p.length : Nat) : Int) := (Int.natCast_mul _ _).symm
  have e4 : M.w64 ((i / p.length * p.length : Nat) : Int) = ((i / p.length * p.length : Nat) : Int) := w64_nat (Nat.le_trans r5 (by decide))
  have e5 : (0 : Int) ≤ ((i % p.length : Nat) : Int) := Int.natCast_nonneg _
  have e6 : ((i % p.length : Nat) : Int) < (q.length : Int) := Int.ofNat_lt.2 (by rw [h3]; exact hm)
  have e3 : M.w64 (((i / p.length * p.length : Nat) : Int) + M.idx p (q.getD (i % p.length) 0)) = ((M.ordI p q i : Nat) : Int) := by
    have : M.ordI p q i = i / p.length * p.length + (M.idx p (q.getD (i % p.length) 0)).toNat := rfl
    rw [this]
    generalize i / p.length * p.length = D at *
    generalize M.idx p (q.getD (i % p.length) 0) = J at *
    rw [w64_in (by omega) (by omega)]
    omega
  have c1 : (i : Int) < x.length := by omega
  have c2 : ((p.length : Int) != 0) = true := bne_iff_ne.2 (by omega)
  have c3 : (0 : Int) ≤ ((M.ordI p q i : Nat) : Int) := Int.natCast_nonneg _
  have c4 : ((M.ordI p q i : Nat) : Int) < (b.length : Int) := Int.ofNat_lt.2 r3
  have c5 : M.w64 ((i : Int) + 1) = ((i + 1 : Nat) : Int) := w64_nat (k := i + 1) (Nat.le_trans hi4 (by decide))
  have ht : (i : Int).tdiv (p.length : Int) = ((i / p.length : Nat) : Int) := rfl
  have hs : (i : Int).tmod (p.length : Int) = ((i % p.length : Nat) : Int) := rfl
  rw [o_step, ht, hs, e1, e2, e4, Int.toNat_natCast, Int.toNat_natCast, e3, Int.toNat_natCast, hv, decide_eq_true c1, decide_eq_true (Int.natCast_nonneg i : (0 : Int) ≤ i),
    c2, decide_eq_true e5, decide_eq_true e6, decide_eq_true (Nat.lt_of_le_of_lt h2 (by decide) : p.length < 4294967296),
    decide_eq_true c3, decide_eq_true c4, bne_self_eq_false, c5]
  rfl

def l_Ord : Nat → St → Option (Bool × Ex × St)
  | 0, ⟨[(2, .bool false), (4, .vi .i64 p), (6, .gsl 1 0), (7, .ptr 3 0 2), (101, .vi .i32 x), (102, .int .i64 n), (103, .int .i64 0)], [(3, .fix (.cells [.int .i64 np, .vi .i32 b])), (1, .grow 1 0 (.ints .i64 q))], 4⟩ => some (M.okOrd p q x b && decide (n = x.length), .exit 0, oSt p q x b np n n)
  | _, _ => none
noncomputable def ox : Cfg := ow.addL 5 0 l_Ord
theorem ox_ok : CfgOK ox := addL_ok ow_ok (by kernel_rfl) fun lo st ex st' h => by
  unfold l_Ord at h
  split at h
  · simp only [Option.some.injEq, Prod.mk.injEq] at h
    obtain ⟨hc, rfl, rfl⟩ := h
    rename_i p x n np b q
    rw [Bool.and_eq_true] at hc
    obtain ⟨h, hn⟩ := hc
    have hn := of_decide_eq_true hn
    subst hn
    refine loop_known (m := 0) (kp := (some [2, 4, 6, 7, 101, 102, 103])) ow_ok noCall_ok ?_
    refine loop_rule (fun i : Nat => oSt p q x b np x.length i) (fun i => i ≤ x.length) (fun i => x.length - i) (fun _ => (.exit 0, oSt p q x b np x.length x.length)) (fun i hi => ?_) 0 (Nat.zero_le _)
    by_cases hlt : i < x.length
    · exact .inl ⟨i + 1, hlt, by omega, rfl, fun K' => o_next np h i hlt K'⟩
    · have : i = x.length := by omega
      subst this
      refine .inr ⟨⟨0, .inl rfl⟩, fun K' => ?_⟩
      rw [o_step, decide_eq_false (by omega)]
      rfl
  · cases h

def oS (s : List Int) : List Int := List.take 300 s
def oP (s : List Int) : List Int := M.mapOf (oS s)
def oK (s : List Int) : Int := M.nextV ((oP s).length : Int) (M.nextL 7 (oS s))
def oQ (s : List Int) : List Int := [] ++ List.drop ((oK s).toNat * 1) (oP s) ++ List.take ((oK s).toNat * 1) (oP s)
def oB (s : List Int) : List Int := M.blkD (M.bN ((oP s).length : Int) 4) (M.nextL ((oP s).length : Int) (M.nextL 7 (oS s)))
def oX (s : List Int) : List Int := M.apD ((oP s).length : Int) ((oQ s).length : Int) (M.dflC (oP s) (oQ s) (oP s).length) (oB s) ((oB s).length / ((oP s).length : Int).toNat)
def oY (s : List Int) : List Int := M.apD ((oQ s).length : Int) ((oP s).length : Int) (M.dflC (oQ s) (oP s) (oQ s).length) (oX s) ((oX s).length / ((oQ s).length : Int).toNat)
theorem o_tree (s : List Int) : callB ox noCall 10 5 [.vi .u8 s] [] 0 = (bif M.byt (oS s) && true then (bif decide (0 ≤ (oK s)) && decide ((oK s) ≤ ((oP s).length : Int)) && true then (bif (List.drop ((oK s).toNat * 1) (oP s)).length.ble 4294967296 && true then (bif decide (0 ≤ (oK s)) && decide ((oK s) ≤ ((oP s).length : Int)) && true then (bif (([] ++ List.drop ((oK s).toNat * 1) (oP s)).length + (List.take ((oK s).toNat * 1) (oP s)).length).ble 4294967296 && true then (bif M.okB ((oP s).length : Int) 4 && true then (bif M.okD2 (oP s) (oQ s) && true then (bif M.okD2 (oQ s) (oP s) && true then (bif M.okA2 ((oP s).length : Int) ((oQ s).length : Int) (M.dflC (oP s) (oQ s) (oP s).length) ((oP s).length : Int) (oB s) && true then (bif M.okA2 ((oQ s).length : Int) ((oP s).length : Int) (M.dflC (oQ s) (oP s) (oQ s).length) ((oQ s).length : Int) (oX s) && true then (bif decide ((oY s).length < 4294967296) && true then (bif !!M.sameB ((oP s).length : Int) (oY s) ((oP s).length : Int) (oB s) then (bif !((oQ s).length : Int) != ((oP s).length : Int) then (bif ((oX s).length : Int) != ((oB s).length : Int) then some (.bool false, [], 0) else (bif M.okOrd (oP s) (oQ s) (oX s) (oB s) && decide (((oX s).length : Int) = (oX s).length) then some (.bool true, [], 0) else none)) else some (.bool false, [], 0)) else some (.bool false, [], 0)) else none) else none) else none) else none) else none) else none) else none) else none) else none) else none) else none) := by kernel_rfl
namespace M
def rot (p : List Int) (k : Nat) : List Int := p.drop k ++ p.take k
def invB (n : Nat) (s t : Nat → Nat) : Bool := allN n fun r => Nat.beq (s (t r)) r
def rotOK (p : List Int) (k : Nat) : Bool := mapV p && mapV (rot p k) && decide ((rot p k).length = p.length) && permB p.length p.length (dflC p (rot p k) p.length) (at_ p (rot p k)) && permB p.length p.length (dflC (rot p k) p p.length) (at_ (rot p k) p) &&
  invB p.length (at_ p (rot p k)) (at_ (rot p k) p) && allN p.length (fun r => has p ((rot p k).getD r 0)) && (dflC p (rot p k) p.length).all inC && (dflC (rot p k) p p.length).all inC
end M
theorem rots : ((List.range 7).all fun j => (List.range (M.maps.getD j []).length).all fun k => M.rotOK (M.maps.getD j []) k) = true := by kernel_rfl

theorem maps_len : ((List.range 7).all fun j => decide (1 ≤ (M.maps.getD j []).length) && decide ((M.maps.getD j []).length ≤ 6)) = true := by kernel_rfl

theorem okA2_of {n : Nat} {co : List Int} {l : List Int} {F : Nat} (h1 : 1 ≤ n) (h2 : n ≤ 8) (hco : co.length = n * n) (hin : co.all M.inC = true) (hl : l.length = F * n) (hF : F ≤ 4) (hs : l.all M.smp = true) : M.okA2 n n co n l = true := by
  have hle : F * n ≤ 4 * 8 := Nat.mul_le_mul hF h2
  have hco2 : n * n ≤ 8 * 8 := Nat.mul_le_mul h2 h2
  have hm : M.mtxV n n co = true := by
    unfold M.mtxV
    rw [decide_eq_true (by omega), decide_eq_true (by omega), hin, hco, decide_eq_true (Int.natCast_mul n n)]; rfl
  have hv : M.valid n l = true := valid_of h1 h2 hl (by omega) hs
  unfold M.okA2
  rw [hm, hv, decide_eq_true rfl, decide_eq_true (by omega), decide_eq_true (by omega)]; rfl

theorem o_law (s : List Int) (hs : M.byt s = true) : callB ox noCall 10 5 [.vi .u8 s] [] 0 = some (.bool true, [], 0) := by
  rw [o_tree]
  have b0 : M.byt (oS s) = true := byt_take 300 hs
  have j0 := next_range (n := 7) (by omega) b0
  have hj : (M.nextV 7 (oS s)).toNat < 7 := by omega
  have hr0 := List.all_eq_true.1 rots _ (List.mem_range.2 hj)
  have hl0 := List.all_eq_true.1 maps_len _ (List.mem_range.2 hj)
  have hr1 : ((List.range (oP s).length).all fun k => M.rotOK (oP s) k) = true := hr0
  have hl1 : (decide (1 ≤ (oP s).length) && decide ((oP s).length ≤ 6)) = true := hl0
  rw [Bool.and_eq_true, decide_eq_true_iff, decide_eq_true_iff] at hl1
  obtain ⟨l1, l2⟩ := hl1
  have b1 := byt_next (n := 7) b0
  have k0 := next_range (n := ((oP s).length : Int)) (by omega) b1
  have hk0 : 0 ≤ oK s := k0.1
  have hk1 : oK s < (oP s).length := k0.2
  have hR := List.all_eq_true.1 hr1 _ (List.mem_range.2 (show (oK s).toNat < (oP s).length by omega))
  have b2 := byt_next (n := ((oP s).length : Int)) b1
  have hB0 : M.okB ((oP s).length : Int) 4 = true := by
    unfold M.okB; rw [decide_eq_true (by omega), decide_eq_true (by omega), decide_eq_true (by omega), decide_eq_true (by omega)]; rfl
  have hBn : M.bN ((oP s).length : Int) 4 = 4 * (oP s).length := by unfold M.bN; omega
  have hBl : (oB s).length = 4 * (oP s).length := by unfold oB; rw [blkD_length, hBn]
  have hBs : (oB s).all M.smp = true := blkD_smp _ b2
  have hQ : oQ s = M.rot (oP s) (oK s).toNat := by unfold oQ M.rot; rw [Nat.mul_one, List.nil_append]
  unfold M.rotOK at hR
  rw [← hQ] at hR
  simp only [Bool.and_eq_true, decide_eq_true_eq] at hR
  obtain ⟨⟨⟨⟨⟨⟨⟨⟨r1, r2⟩, r3⟩, r4⟩, r5⟩, r6⟩, r7⟩, r8⟩, r9⟩ := hR
  have p1 := permB_ok r4
  have p2 := permB_ok r5
  have hX : oX s = M.apD ((oP s).length : Int) ((oP s).length : Int) (M.dflC (oP s) (oQ s) (oP s).length) (oB s) 4 := by
    unfold oX; rw [r3, Int.toNat_natCast, hBl, Nat.mul_div_cancel _ (by omega)]
  have hXl : (oX s).length = 4 * (oP s).length := by rw [hX, apD_len]
  have hX1 : ∀ i r, i < 4 → r < (oP s).length → (oX s).getD (i * (oP s).length + r) 0 = (oB s).getD (i * (oP s).length + M.at_ (oP s) (oQ s) r) 0 := fun i r hi hr => by
    rw [hX]; exact apply_perm p1 hBl hBs hi hr
  have hX2 : ∀ i, i < (oX s).length → (oX s).getD i 0 = (oB s).getD (M.ordI (oP s) (oQ s) i) 0 := fun i hi => by
    rw [hXl] at hi
    obtain ⟨a, b, c⟩ := split_at hi
    have := hX1 _ _ a b
    rwa [← c] at this
  have hXs : (oX s).all M.smp = true := by
    rw [List.all_eq_true]
    intro x hx
    obtain ⟨i, hi, rfl⟩ := List.mem_iff_getElem.1 hx
    have := hX2 i hi
    rw [List.getD_eq_getElem?_getD, List.getElem?_eq_getElem hi] at this
    rw [show (oX s)[i] = (oB s).getD (M.ordI (oP s) (oQ s) i) 0 from this]
    rw [hXl] at hi
    obtain ⟨a, b, c⟩ := split_at hi
    refine all_getD hBs ?_
    have := (p1 _ b).1
    have hle : i / (oP s).length * (oP s).length + (oP s).length ≤ 4 * (oP s).length := by rw [← Nat.succ_mul]; exact Nat.mul_le_mul_right _ a
    unfold M.ordI
    omega
  have hY : oY s = M.apD ((oP s).length : Int) ((oP s).length : Int) (M.dflC (oQ s) (oP s) (oP s).length) (oX s) 4 := by
    unfold oY; rw [r3, Int.toNat_natCast, hXl, Nat.mul_div_cancel _ (by omega)]
  have hYl : (oY s).length = 4 * (oP s).length := by rw [hY, apD_len]
  have hYB : oY s = oB s := by
    refine ext_getD (by rw [hYl, hBl]) fun k hk => ?_
    rw [hYl] at hk
    obtain ⟨a, b, c⟩ := split_at hk
    have e1 := apply_perm p2 hXl hXs a b
    have e2 := hX1 _ _ a (p2 _ b).1
    have e3 := Nat.eq_of_beq_eq_true (allN_iff.1 r6 _ b)
    rw [c, hY, e1, e2, e3]
  have hOrd : M.okOrd (oP s) (oQ s) (oX s) (oB s) = true := by
    unfold M.okOrd
    rw [decide_eq_true l1, decide_eq_true (by omega : (oP s).length ≤ 8), decide_eq_true r3, r7, decide_eq_true (by omega : (oB s).length ≤ 4096), decide_eq_true (by omega : (oX s).length = (oB s).length),
      decide_eq_true (by rw [hBl, Nat.mul_div_cancel _ (by omega)] : (oB s).length = (oB s).length / (oP s).length * (oP s).length), allN_iff.2 fun i hi => by rw [beq_iff_eq]; exact hX2 i hi]
    rfl
  have hD1 : M.okD2 (oP s) (oQ s) = true := by unfold M.okD2; rw [r1, r2]; rfl
  have hD2 : M.okD2 (oQ s) (oP s) = true := by unfold M.okD2; rw [r1, r2]; rfl
  have hA1 := okA2_of (n := (oP s).length) (co := M.dflC (oP s) (oQ s) (oP s).length) (l := oB s) (F := 4) l1 (by omega) (by rw [dflC_length, r3]) r8 hBl (Nat.le_refl _) hBs
  have hA2 := okA2_of (n := (oP s).length) (co := M.dflC (oQ s) (oP s) (oP s).length) (l := oX s) (F := 4) l1 (by omega) (by rw [dflC_length, r3]) r9 hXl (Nat.le_refl _) hXs
  rw [b0, decide_eq_true hk0, decide_eq_true (Int.le_of_lt hk1), hB0, hD1, hD2, r3, hA1, hA2, hYB, sameB_self, hOrd, hXl, hBl, bne_self_eq_false, bne_self_eq_false, decide_eq_true (by omega : 4 * (oP s).length < 4294967296),
    show (List.drop ((oK s).toNat * 1) (oP s)).length.ble 4294967296 = true from Nat.ble_eq_true_of_le (by rw [List.length_drop]; omega),
    show (([] ++ List.drop ((oK s).toNat * 1) (oP s) : List Int).length + (List.take ((oK s).toNat * 1) (oP s)).length).ble 4294967296 = true from Nat.ble_eq_true_of_le (by rw [List.nil_append, List.length_drop, List.length_take]; omega)]
  simp

theorem matrixOrder_lifted (os : Os) (started : os.Started) (H : Type) (enc : TypeId × Value → H) :
    ReturnsInHanded {} Try.checked os 5 .any (Rows.matrixOrderSpec.pre6 enc Try.prog Try.f5 Rows.matrixOrderRow.domain false) (Rows.matrixOrderSpec.post enc Try.prog Try.f5 false true false false) := by
  refine returnsInHanded_of_change (C := Try.checked) own started (by kernel_rfl) Try.func5
    (ChangeSpec.witness6 (enc := enc) (C := Try.checked) false ⟨#[], #[.slice none 0 0], []⟩ 8 (by kernel_rfl) (by kernel_rfl) (by kernel_rfl) (by kernel_rfl)) ?_
  intro W base args ds gs before hval0 hW hcnd _
  have hval : ∀ (j : Nat) t v, Try.f5.params[j]? = some t → args[j]? = some v → Value.okWide Try.prog W .any base t v := hval0
  have hW' := hW
  obtain ⟨p, q, hA0, hV, rfl, hfz, hnd⟩ := hW
  have hA : DataW.TrodAll enc Try.prog W 0 (fun _ => true) true Try.f5.params.toList args.toList ds p := hA0
  rw [Try.params5] at hA hval
  obtain ⟨v0, d0, rfl, rfl, h0⟩ := trodAll_one hA
  obtain ⟨rfl, rfl⟩ := trodVars_none hV
  obtain ⟨a_s, len_s, cap_s, rfl⟩ := okWide_slice Try.underlying28 (hval 0 28 v0 rfl rfl)
  obtain ⟨s, h_s, w_s⟩ := open_row' Try.underlying28 Try.underlying5 (by kernel_rfl) ⟨_, rfl, rfl⟩ h0
  have hcalls := pure_of_callB ox_ok noCall_ok (m := 10) (o_law s (byt_of_wf w_s)) rfl (fun b _ => b < W.heap.size) W [.slice a_s len_s cap_s] (fun b _ h => h)
    (.cons h_s .nil)
  refine hcalls.mono fun e W' ⟨V, he, hs, hbl, hos, hout, hV⟩ => ?_
  cases hV
  exact ⟨_, he, law_post laidOut hW' rfl rfl rfl rfl (by kernel_rfl) Try.underlying4 (by rw [Try.params5]; intro t ht; simp at ht; subst ht; exact ⟨by kernel_rfl, by decide +kernel⟩) hos hout hbl⟩

theorem matrixOrder_holds : Rows.MatrixOrderSaid :=
  OpenClaim.holds_of_wide 5 Try.f5 rfl rfl rfl rfl rfl rfl rfl ⟨rfl, rfl, rfl, rfl, rfl⟩ rfl rfl rfl rfl rfl (by kernel_rfl) Try.func5 (by kernel_rfl)
    (of_decide_eq_true (by kernel_rfl)) (by unfold Func.isWrapper; first | (rw [if_pos (by decide +kernel)]; kernel_rfl) | (rw [if_neg (by decide +kernel)]; exact ⟨rfl, rfl⟩))
    (fun os started H enc _ => matrixOrder_lifted os started H enc)

end Go.Proofs.Ytplcpdjabjjfiaa
