/- Several texts in one: CvS CvT. -/
import Derived.Test.YtooiechjanmdjaaCvR
/- Plain laws of conversions: the converter after some bytes; equal rates. -/
namespace Go.Proofs.Ytooiechjanmdjaa
open Am
set_option maxRecDepth 100000
set_option linter.unusedVariables false
set_option linter.unusedSimpArgs false
theorem wt_of {c : Nat} {L : List Int} {A : Nat} (hc : 1 ≤ c) (hL : L.length = A * c) : M.wt c L = A := by
  unfold M.wt
  rw [hL, Int.natCast_mul, Int.mul_tdiv_cancel _ (by omega)]
theorem psK_zero {n d j p f : Int} (hv : Ph.PV ⟨n, d, j, p, f⟩) : M.psK n d j f 0 = 0 := by
  obtain ⟨⟨x1, x2, x3⟩, _, _, _, z1, z2⟩ := Ph.valid_iff.1 hv
  simp only at x2 z1 z2
  unfold M.psK
  rw [Int.zero_mul, Int.zero_mul, Int.add_zero]
  exact Int.ediv_eq_zero_of_lt z1 z2
/-- the converter after some frames -/
theorem run_next {c : Nat} {n d j p f : Int} {L : List Int} {A : Nat} (hv : Ph.PV ⟨n, d, j, p, f⟩) (hc1 : 1 ≤ c) (hc8 : c ≤ 8) (hL : L.length = A * c) (hA : A ≤ 65536) (hs : L.all M.smp = true) (hp : p ≤ 1099511627776) :
    ∃ m K : Nat, M.cnt c n d j p f L = m ∧ m ≤ 65536 ∧ M.psK n d j f m = K ∧ K ≤ A ∧ M.rP c n d j p f L = p + K ∧ M.rF c n d j p f L = M.psF n d j f m ∧ M.rR c n d j p f L = L.drop (K * c) ∧
      Ph.PV ⟨n, d, j, p + K, M.psF n d j f m⟩ ∧ M.rsV c n d j (p + K) (M.psF n d j f m) (L.drop (K * c)) = true ∧ (0 < m → nd n d j f m ≤ A) ∧ M.rO = M.rO := by
  have hw := wt_of hc1 hL
  have hsp := cnt_spec hv (lim := M.wt c L) (by rw [hw]; omega) (by rw [hw]; omega)
  have hN : Ph.M.mkCnt n d j p f (M.wt c L) = M.cnt c n d j p f L := rfl
  rw [hN] at hsp
  obtain ⟨a1, a2, a3, a4⟩ := hsp
  obtain ⟨m, hm⟩ := Int.eq_ofNat_of_zero_le a1
  obtain ⟨r1, r2⟩ := psK_range hv a1 a2
  rw [hm] at a1 a2 a3 a4 r1 r2
  obtain ⟨K, hK⟩ := Int.eq_ofNat_of_zero_le r1
  have hneed : 0 < m → nd n d j f m ≤ A := fun h => by have := a4 (by omega); rw [hw] at this; exact this
  have hKA : K ≤ A := by
    by_cases h0 : m = 0
    · subst h0
      have e := psK_zero hv
      have e' : M.psK n d j f ((0 : Nat) : Int) = 0 := e
      omega
    · have h1 := hneed (by omega)
      rw [nd_pos (by omega), hK] at h1
      split at h1 <;> omega
  have hg : M.goneN c n d j f L m = K * c := by
    unfold M.goneN
    rw [hK, ← Int.natCast_mul, Int.toNat_natCast, hL]
    exact Nat.min_eq_left (Nat.mul_le_mul_right _ hKA)
  obtain ⟨⟨x1, x2, x3⟩, ⟨y1, y2⟩, ⟨c1, c2⟩, ⟨p1, p2⟩, z1, z2⟩ := Ph.valid_iff.1 hv
  simp only at x1 x2 x3 y1 y2 c1 c2 p1 p2 z1 z2
  obtain ⟨_, _, q1, q2⟩ := psF_range hv m
  have hPV : Ph.PV ⟨n, d, j, p + K, M.psF n d j f m⟩ := by
    have hle : K * c ≤ A * c := Nat.mul_le_mul_right _ hKA
    exact Ph.valid_iff.2 ⟨⟨x1, x2, x3⟩, ⟨y1, y2⟩, ⟨c1, c2⟩, ⟨by show 0 ≤ p + (K : Int); omega, by show p + (K : Int) ≤ 1125899906842624; omega⟩, q1, q2⟩
  refine ⟨m, K, hm, by omega, hK, hKA, by unfold M.rP; rw [hm, hK], by unfold M.rF; rw [hm], by unfold M.rR; rw [hm, hg], hPV, ?_, hneed, rfl⟩
  have hlen : (L.drop (K * c)).length = (A - K) * c := by rw [List.length_drop, hL, Nat.sub_mul]
  have hvl : M.valid c (L.drop (K * c)) = true := valid_of hc1 hc8 hlen (by omega) (by
    rw [List.all_eq_true] at hs ⊢
    exact fun x hx => hs x (List.mem_of_mem_drop hx))
  have hpv : Ph.M.valid n d j (p + K) (M.psF n d j f m) = true := hPV
  unfold M.rsV
  rw [hpv, hvl]; rfl

theorem frm_at {c : Nat} {L : List Int} {i : Nat} (h : (i + 1) * c ≤ L.length) : M.frm c L i = (L.drop (i * c)).take c := by
  unfold M.frm
  rw [← Int.natCast_mul, Int.toNat_natCast, Int.toNat_natCast]
  rw [Nat.succ_mul] at h
  rw [Nat.min_eq_left (by omega)]
theorem psK_one (i : Int) : M.psK 1 1 0 0 i = i ∧ M.psF 1 1 0 0 i = 0 := by
  unfold M.psK M.psF
  constructor <;> omega
theorem outF_one {c : Nat} {L : List Int} {i : Nat} (hs : L.all M.smp = true) (h : (i + 1) * c ≤ L.length) : M.outF c 1 1 0 0 L i = (L.drop (i * c)).take c := by
  unfold M.outF M.rowV
  rw [(psK_one i).1, (psK_one i).2, frm_at h, Int.toNat_natCast]
  have hl : ((L.drop (i * c)).take c).length = c := by
    rw [List.length_take, List.length_drop]; rw [Nat.succ_mul] at h; omega
  refine ext_getD (by rw [List.length_map, List.length_range, hl]) fun z hz => ?_
  rw [List.length_map, List.length_range] at hz
  rw [map_getD hz]
  have h1 : ((L.drop (i * c)).take c).all M.smp = true := by
    rw [List.all_eq_true] at hs ⊢
    exact fun x hx => hs x (List.mem_of_mem_drop (List.mem_of_mem_take hx))
  exact mixV_here (by omega) (by omega) (smp_getD h1 z) (smp_getD (smp_frm hs) z)
theorem outD_one {c : Nat} {L : List Int} (hs : L.all M.smp = true) : ∀ m : Nat, m * c ≤ L.length → M.outD c 1 1 0 0 L m = L.take (m * c)
  | 0, _ => by rw [Nat.zero_mul, List.take_zero]; rfl
  | m + 1, h => by
    rw [outD_snoc, outD_one hs m (by rw [Nat.succ_mul] at h; omega), outF_one hs h, Nat.succ_mul, List.take_add]
theorem encB_append (k : Int) (a b : List Int) : M.encB k (a ++ b) = M.encB k a ++ M.encB k b := List.flatMap_append ..
theorem pv_one {p : Int} (h1 : 0 ≤ p) (h2 : p ≤ 1099511627776) : Ph.PV ⟨1, 1, 0, p, 0⟩ := by
  refine Ph.valid_iff.2 ?_
  dsimp only
  exact ⟨⟨by omega, by omega, by decide +kernel⟩, ⟨by omega, by omega⟩, ⟨by omega, by omega⟩, ⟨h1, by omega⟩, by omega, by omega⟩
theorem nd_one {r : Int} (h : 1 ≤ r) : nd 1 1 0 0 r = r + 1 := by
  rw [nd_pos h, (psK_one _).1, (psK_one _).1]
  split <;> omega
theorem cnt_one1 {c : Nat} {p : Int} {L : List Int} {A : Nat} (hv : Ph.PV ⟨1, 1, 0, p, 0⟩) (hc1 : 1 ≤ c) (hL : L.length = A * c) (hA : A ≤ 4096) : M.cnt c 1 1 0 p 0 L = (A - 1 : Nat) := by
  have hw := wt_of hc1 hL
  obtain ⟨h1, h2⟩ := cnt_Cn hv (by omega) (A := A) (by omega) (by omega)
  have hC : Cn 1 1 0 0 A ((A - 1 : Nat) : Int) := by
    refine ⟨by omega, ?_, fun h => ?_⟩
    · rw [nd_one (by omega)]; omega
    · rw [nd_one (by omega)]; omega
  have := Cn_unique (by omega) (by omega) h1 hC
  unfold M.cnt
  rw [hw]; exact this
/-- between equal rates all frames go through -/
theorem one_one {c : Nat} {p : Int} {L : List Int} {A : Nat} (hp1 : 0 ≤ p) (hp2 : p ≤ 1000000) (hc1 : 1 ≤ c) (hc8 : c ≤ 8) (hL : L.length = A * c) (hA : A ≤ 4096) (hs : L.all M.smp = true) (k : Int) :
    M.rO k c 1 1 0 p 0 L ++ M.fO k c 1 1 0 (M.rF c 1 1 0 p 0 L) (M.rR c 1 1 0 p 0 L) = M.encB k L ∧ M.rF c 1 1 0 p 0 L = 0 ∧ 0 ≤ M.rP c 1 1 0 p 0 L ∧ M.rP c 1 1 0 p 0 L ≤ p + A ∧ (M.rR c 1 1 0 p 0 L).length ≤ A * c ∧ M.rsV c 1 1 0 (M.rP c 1 1 0 p 0 L) (M.rF c 1 1 0 p 0 L) (M.rR c 1 1 0 p 0 L) = true := by
  have hv := pv_one hp1 (show p ≤ 1099511627776 by omega)
  obtain ⟨m, K, e1, e2, e3, e4, e5, e6, e7, e8, e9, e10, _⟩ := run_next hv hc1 hc8 hL (by omega) hs (by omega)
  have hm := cnt_one1 hv hc1 hL hA
  rw [hm] at e1
  have hm' : A - 1 = m := by omega
  have hK : K = m := by have := (psK_one m).1; omega
  subst hK
  have hF : M.psF 1 1 0 0 (K : Int) = 0 := (psK_one _).2
  rw [e5, e6, e7, hF]
  rw [hF] at e9
  have hle : K * c ≤ L.length := by rw [hL]; exact Nat.mul_le_mul_right _ e4
  have hrt : (L.drop (K * c)).length = (A - K) * c := by rw [List.length_drop, hL, Nat.sub_mul]
  have hrs : (L.drop (K * c)).all M.smp = true := by
    rw [List.all_eq_true] at hs ⊢
    exact fun x hx => hs x (List.mem_of_mem_drop hx)
  refine ⟨?_, rfl, by omega, by omega, by rw [hrt]; exact Nat.mul_le_mul_right _ (by omega), e9⟩
  have hfc : (M.fcnt c 1 1 0 0 (L.drop (K * c)) 65536).toNat * c = (L.drop (K * c)).length ∧ (M.fcnt c 1 1 0 0 (L.drop (K * c)) 65536).toNat = A - K := by
    have hl : M.left c 1 0 (L.drop (K * c)) = ((A - K : Nat) : Int) * 65536 := by unfold M.left; rw [wt_of hc1 hrt]; omega
    have h01 : A - K = 0 ∨ A - K = 1 := by omega
    have : (M.fcnt c 1 1 0 0 (L.drop (K * c)) 65536).toNat = A - K := by
      unfold M.fcnt
      rw [hl]
      rcases h01 with h | h <;> rw [h] <;> rfl
    exact ⟨by rw [this, hrt], this⟩
  unfold M.rO M.fO
  rw [hm, show (A - 1 : Nat) = K from hm', Int.toNat_natCast, outD_one hs K hle, outD_one hrs _ (Nat.le_of_eq hfc.1), hfc.1, List.take_length, ← encB_append, List.take_append_drop]
end Go.Proofs.Ytooiechjanmdjaa

/- Plain laws of conversions: bytes there and back; maps that are turned. -/
namespace Go.Proofs.Ytooiechjanmdjaa
open Am
set_option maxRecDepth 100000
set_option linter.unusedVariables false
set_option linter.unusedSimpArgs false
namespace M
def rot (p : List Int) (k : Nat) : List Int := p.drop k ++ p.take k
def invB (n : Nat) (s t : Nat → Nat) : Bool := allN n fun r => Nat.beq (s (t r)) r
/-- a map and the same one, turned -/
def rotOK (p q : List Int) : Bool := mapV p && mapV q && decide (q.length = p.length) && permB p.length p.length (dflC p q p.length) (at_ p q) && permB p.length p.length (dflC q p p.length) (at_ q p) &&
  invB p.length (at_ p q) (at_ q p) && mtxV p.length p.length (dflC p q p.length) && mtxV p.length p.length (dflC q p p.length)
end M
theorem rots' : (M.maps.all fun p => (List.range p.length).all fun k => M.rotOK p (M.rot p k)) = true := by kernel_rfl
theorem maps_len' : (M.maps.all fun p => decide (1 ≤ p.length) && decide (p.length ≤ 6)) = true := by kernel_rfl
theorem maps_len_of {p : List Int} (h : p ∈ M.maps) : 1 ≤ p.length ∧ p.length ≤ 6 := by
  have := List.all_eq_true.1 maps_len' _ h
  rwa [Bool.and_eq_true, decide_eq_true_iff, decide_eq_true_iff] at this
theorem rot_ok {p : List Int} (h : p ∈ M.maps) {k : Nat} (hk : k < p.length) : M.rotOK p (M.rot p k) = true :=
  List.all_eq_true.1 (List.all_eq_true.1 rots' _ h) _ (List.mem_range.2 hk)
theorem rot_self {p : List Int} (h : p ∈ M.maps) : M.rotOK p p = true := by
  have := rot_ok h (show 0 < p.length from (maps_len_of h).1)
  unfold M.rot at this
  rwa [List.drop_zero, List.take_zero, List.append_nil] at this
theorem rotOK_iff {p q : List Int} (h : M.rotOK p q = true) : M.mapV p = true ∧ M.mapV q = true ∧ q.length = p.length ∧ M.Perm p.length p.length (M.dflC p q p.length) (M.at_ p q) ∧ M.Perm p.length p.length (M.dflC q p p.length) (M.at_ q p) ∧
    (∀ r, r < p.length → M.at_ p q (M.at_ q p r) = r) ∧ M.mtxV p.length p.length (M.dflC p q p.length) = true ∧ M.mtxV p.length p.length (M.dflC q p p.length) = true := by
  unfold M.rotOK at h
  simp only [Bool.and_eq_true, decide_eq_true_eq] at h
  obtain ⟨⟨⟨⟨⟨⟨⟨h1, h2⟩, h3⟩, h4⟩, h5⟩, h6⟩, h7⟩, h8⟩ := h
  exact ⟨h1, h2, h3, permB_ok h4, permB_ok h5, fun r hr => Nat.eq_of_beq_eq_true (allN_iff.1 h6 r hr), h7, h8⟩
theorem apply_inv {n : Nat} {co1 co2 l : List Int} {s t : Nat → Nat} {F : Nat} (p1 : M.Perm n n co1 s) (p2 : M.Perm n n co2 t) (hi : ∀ r, r < n → s (t r) = r) (hl : l.length = F * n) (hs : l.all M.smp = true) : M.apD n n co2 (M.apD n n co1 l F) F = l := by
  refine ext_getD (by rw [apD_len, hl]) fun k hk => ?_
  rw [apD_len] at hk
  obtain ⟨a, b, c⟩ := split_at hk
  have e1 := apply_perm p2 (l := M.apD n n co1 l F) apD_len (apD_smp _ _ _ _ _) a b
  have e2 := apply_perm p1 hl hs a (p2 _ b).1
  rw [hi _ b] at e2
  rw [c, e1, e2]
/-- what is turned comes from where it was -/
theorem apply_mem {n : Nat} {co l : List Int} {s : Nat → Nat} {F : Nat} (p1 : M.Perm n n co s) (hl : l.length = F * n) (hs : l.all M.smp = true) {P : Int → Prop} (h : ∀ x, x ∈ l → P x) : ∀ x, x ∈ M.apD n n co l F → P x := by
  intro x hx
  obtain ⟨k, hk, rfl⟩ := List.mem_iff_getElem.1 hx
  have hk' := hk
  rw [apD_len] at hk'
  obtain ⟨a, b, c⟩ := split_at hk'
  have e1 := apply_perm p1 hl hs a b
  have hin := (p1 _ b).1
  have hlt : k / n * n + s (k % n) < l.length := by
    rw [hl]
    have : k / n * n + n ≤ F * n := by rw [← Nat.succ_mul]; exact Nat.mul_le_mul_right _ a
    omega
  have e2 : (M.apD n n co l F)[k] = (M.apD n n co l F).getD k 0 := by rw [List.getD_eq_getElem?_getD, List.getElem?_eq_getElem hk]; rfl
  rw [e2, c, e1, List.getD_eq_getElem?_getD, List.getElem?_eq_getElem hlt]
  exact h _ (List.getElem_mem hlt)
theorem encB_decB {k : Int} (h1 : 1 ≤ k) (h2 : k ≤ 5) {b : List Int} (hb : M.byt b = true) (hm : b.length % (M.fsz k).toNat = 0) : M.encB k (M.decB k b) = b := by
  refine Sp.enc_decAll (Sp.kind_okF h1 (by omega)) ?_ hb hm
  rcases kinds k with rfl | rfl | rfl | rfl | rfl | rfl | rfl | ⟨a1, a2, a3, a4, a5, a6, a7⟩ <;> first | decide | omega | skip
  unfold M.fsz
  rw [a1, a2, a3, a4, a5, a6, a7]; decide
theorem decB_encB {k : Int} (h1 : 1 ≤ k) (h2 : k ≤ 7) {x : List Int} (hs : x.all M.smp = true) (ha : ∀ s, s ∈ x → Sp.again (M.fsz k) s = s) : M.decB k (M.encB k x) = x := by
  unfold M.decB M.encB
  rw [Sp.dec_flatMap (Sp.kind_okF h1 h2) (List.all_eq_true.1 hs)]
  have : x.map (Sp.again (M.fsz k)) = x.map id := List.map_congr_left fun s h => ha s h
  rw [this, List.map_id]
/-- a sample that comes out of bytes -/
theorem again_dec {k : Int} (h1 : 1 ≤ k) (h2 : k ≤ 5) {b : List Int} (hb : M.byt b = true) (hm : b.length % (M.fsz k).toNat = 0) : ∀ s, s ∈ M.decB k b → Sp.again (M.fsz k) s = s := by
  intro s hs
  have hf := Sp.kind_okF h1 (show k ≤ 7 by omega)
  obtain ⟨z1, z2, z3⟩ := okF_sz hf
  have h3 : M.fsz k ≤ 3 := by
    rcases kinds k with rfl | rfl | rfl | rfl | rfl | rfl | rfl | ⟨a1, a2, a3, a4, a5, a6, a7⟩ <;> first | decide | omega | skip
    unfold M.fsz
    rw [a1, a2, a3, a4, a5, a6, a7]; decide
  unfold M.decB M.decAll M.decN at hs
  obtain ⟨j, hj, rfl⟩ := List.mem_map.1 hs
  rw [List.mem_range] at hj
  have hlen : (M.chunk b ((M.fsz k).toNat * j) (M.fsz k).toNat).length = (M.fsz k).toNat := chunk_len (by
    have hd := Nat.div_add_mod b.length (M.fsz k).toNat
    have : (M.fsz k).toNat * (j + 1) ≤ (M.fsz k).toNat * (b.length / (M.fsz k).toNat) := Nat.mul_le_mul_left _ hj
    rw [Nat.mul_succ] at this
    omega)
  rw [← Sp.dec_enc hf (Sp.decS_smp _ _ _), Sp.enc_dec hf h3 (by rw [hlen]; exact z3) (chunk_byt hb _ _)]
end Go.Proofs.Ytooiechjanmdjaa
