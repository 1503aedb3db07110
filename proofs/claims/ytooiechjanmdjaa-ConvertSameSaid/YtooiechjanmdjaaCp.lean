/- Plain laws of samples, by names: bytes and samples, there and back. -/
import Derived.Test.YtooiechjanmdjaaSmE
namespace Go.Proofs.Ytooiechjanmdjaa
open Am
set_option maxRecDepth 100000
set_option linter.unusedVariables false
set_option linter.unusedSimpArgs false
namespace Sp
theorem w8_mod (x : Int) : M.w8 x = x % 256 := by
  unfold M.w8
  simp [IntKind.wrap, IntKind.min, IntKind.max, IntKind.signed, IntKind.bits]
theorem fdiv_pos (n : Int) {k : Int} (h : 0 ≤ k) : n.fdiv k = n / k := Int.fdiv_eq_ediv_of_nonneg n h
/-- an integer that a size can hold -/
def InR (sz n : Int) : Prop := (sz = 1 ∧ 0 ≤ n ∧ n ≤ 255) ∨ (sz = 2 ∧ -32768 ≤ n ∧ n ≤ 32767) ∨ (sz = 3 ∧ -8388608 ≤ n ∧ n ≤ 8388607) ∨ (sz = 4 ∧ -2147483648 ≤ n ∧ n ≤ 2147483647)
theorem uns1 (a : Int) : M.uns [a] = a := by simp [M.uns]
theorem uns2 (a b : Int) : M.uns [a, b] = a * 256 + b := by simp [M.uns]
theorem uns3 (a b c : Int) : M.uns [a, b, c] = (a * 256 + b) * 256 + c := by simp [M.uns]
theorem uns4 (a b c d : Int) : M.uns [a, b, c, d] = ((a * 256 + b) * 256 + c) * 256 + d := by simp [M.uns]
theorem sgn_if (u h m : Int) : (bif decide (u ≥ h) then u - m else u) = if u ≥ h then u - m else u := by
  by_cases hh : u ≥ h
  · rw [decide_eq_true hh, if_pos hh]; rfl
  · rw [decide_eq_false hh, if_neg hh]; rfl
theorem rd1 (a : Int) : M.rd 1 false [a] = a := by
  show M.uns [a] = a
  exact uns1 a
theorem rd2 (bg : Bool) (l : List Int) (u : Int) (hu : M.uns (bif bg then l else l.reverse) = u) : M.rd 2 bg l = if u ≥ 32768 then u - 65536 else u := by
  subst hu; exact sgn_if _ _ _
theorem rd3 (bg : Bool) (l : List Int) (u : Int) (hu : M.uns (bif bg then l else l.reverse) = u) : M.rd 3 bg l = if u ≥ 8388608 then u - 16777216 else u := by
  subst hu; exact sgn_if _ _ _
theorem rd4 (bg : Bool) (l : List Int) (u : Int) (hu : M.uns (bif bg then l else l.reverse) = u) : M.rd 4 bg l = if u ≥ 2147483648 then u - 4294967296 else u := by
  subst hu; exact sgn_if _ _ _

theorem rdl2 (a b : Int) : M.rd 2 false [a, b] = if b * 256 + a ≥ 32768 then b * 256 + a - 65536 else b * 256 + a := rd2 false [a, b] _ (uns2 b a)
theorem rdb2 (a b : Int) : M.rd 2 true [a, b] = if a * 256 + b ≥ 32768 then a * 256 + b - 65536 else a * 256 + b := rd2 true [a, b] _ (uns2 a b)
theorem rdl3 (a b c : Int) : M.rd 3 false [a, b, c] = if (c * 256 + b) * 256 + a ≥ 8388608 then (c * 256 + b) * 256 + a - 16777216 else (c * 256 + b) * 256 + a := rd3 false [a, b, c] _ (uns3 c b a)
theorem rdb3 (a b c : Int) : M.rd 3 true [a, b, c] = if (a * 256 + b) * 256 + c ≥ 8388608 then (a * 256 + b) * 256 + c - 16777216 else (a * 256 + b) * 256 + c := rd3 true [a, b, c] _ (uns3 a b c)
theorem rdl4 (a b c d : Int) : M.rd 4 false [a, b, c, d] = if ((d * 256 + c) * 256 + b) * 256 + a ≥ 2147483648 then ((d * 256 + c) * 256 + b) * 256 + a - 4294967296 else ((d * 256 + c) * 256 + b) * 256 + a := rd4 false [a, b, c, d] _ (uns4 d c b a)
theorem rdb4 (a b c d : Int) : M.rd 4 true [a, b, c, d] = if ((a * 256 + b) * 256 + c) * 256 + d ≥ 2147483648 then ((a * 256 + b) * 256 + c) * 256 + d - 4294967296 else ((a * 256 + b) * 256 + c) * 256 + d := rd4 true [a, b, c, d] _ (uns4 a b c d)

theorem rd_wr {sz : Int} {bg : Bool} (hf : M.okF sz bg = true) {n : Int} (h : InR sz n) : M.rd sz bg (M.wr sz bg n) = n := by
  unfold InR at h
  rcases okF_cases hf with ⟨rfl, rfl⟩ | ⟨rfl, rfl⟩ | ⟨rfl, rfl⟩ | ⟨rfl, rfl⟩ | ⟨rfl, rfl⟩ | ⟨rfl, rfl⟩ | ⟨rfl, rfl⟩
  · rw [show M.wr 1 false n = [M.w8 (n.fdiv 1)] from rfl, rd1, w8_mod, fdiv_pos n (by omega)]; omega
  · rw [show M.wr 2 false n = [M.w8 (n.fdiv 1), M.w8 (n.fdiv 256)] from rfl, rdl2, w8_mod, w8_mod, fdiv_pos n (by omega), fdiv_pos n (by omega)]
    split <;> omega
  · rw [show M.wr 2 true n = [M.w8 (n.fdiv 256), M.w8 (n.fdiv 1)] from rfl, rdb2, w8_mod, w8_mod, fdiv_pos n (by omega), fdiv_pos n (by omega)]
    split <;> omega
  · rw [show M.wr 3 false n = [M.w8 (n.fdiv 1), M.w8 (n.fdiv 256), M.w8 (n.fdiv 65536)] from rfl, rdl3, w8_mod, w8_mod, w8_mod, fdiv_pos n (by omega), fdiv_pos n (by omega), fdiv_pos n (by omega)]
    split <;> omega
  · rw [show M.wr 3 true n = [M.w8 (n.fdiv 65536), M.w8 (n.fdiv 256), M.w8 (n.fdiv 1)] from rfl, rdb3, w8_mod, w8_mod, w8_mod, fdiv_pos n (by omega), fdiv_pos n (by omega), fdiv_pos n (by omega)]
    split <;> omega
  · rw [show M.wr 4 false n = [M.w8 (n.fdiv 1), M.w8 (n.fdiv 256), M.w8 (n.fdiv 65536), M.w8 (n.fdiv 16777216)] from rfl, rdl4, w8_mod, w8_mod, w8_mod, w8_mod, fdiv_pos n (by omega), fdiv_pos n (by omega), fdiv_pos n (by omega), fdiv_pos n (by omega)]
    split <;> omega
  · rw [show M.wr 4 true n = [M.w8 (n.fdiv 16777216), M.w8 (n.fdiv 65536), M.w8 (n.fdiv 256), M.w8 (n.fdiv 1)] from rfl, rdb4, w8_mod, w8_mod, w8_mod, w8_mod, fdiv_pos n (by omega), fdiv_pos n (by omega), fdiv_pos n (by omega), fdiv_pos n (by omega)]
    split <;> omega

theorem byt_cons {a : Int} {l : List Int} (h : M.byt (a :: l) = true) : (0 ≤ a ∧ a ≤ 255) ∧ M.byt l = true := by
  simp only [M.byt, List.all_cons, Bool.and_eq_true, decide_eq_true_eq] at h
  exact h
theorem byt_wr (sz : Int) (bg : Bool) (n : Int) : M.byt (M.wr sz bg n) = true := by
  simp only [M.byt, M.wr, List.all_eq_true, List.mem_map, Bool.and_eq_true, decide_eq_true_eq]
  rintro x ⟨i, _, rfl⟩
  rw [w8_mod]; omega

/-- bytes as integers, and back -/
theorem wr_rd {sz : Int} {bg : Bool} (hf : M.okF sz bg = true) {S : List Int} (hl : (S.length : Int) = sz) (hb : M.byt S = true) : M.wr sz bg (M.rd sz bg S) = S ∧ InR sz (M.rd sz bg S) := by
  unfold InR
  rcases okF_cases hf with ⟨rfl, rfl⟩ | ⟨rfl, rfl⟩ | ⟨rfl, rfl⟩ | ⟨rfl, rfl⟩ | ⟨rfl, rfl⟩ | ⟨rfl, rfl⟩ | ⟨rfl, rfl⟩
  · obtain ⟨a, rfl⟩ := list1 hl
    obtain ⟨ha, _⟩ := byt_cons hb
    rw [rd1]
    refine ⟨?_, .inl ⟨rfl, ha.1, ha.2⟩⟩
    rw [show M.wr 1 false a = [M.w8 (a.fdiv 1)] from rfl, w8_mod, fdiv_pos a (by omega), show a / 1 % 256 = a by omega]
  · obtain ⟨a, b, rfl⟩ := list2 hl
    obtain ⟨ha, hb⟩ := byt_cons hb
    obtain ⟨hb, _⟩ := byt_cons hb
    rw [rdl2]
    generalize hn : (if b * 256 + a ≥ 32768 then b * 256 + a - 65536 else b * 256 + a) = n
    have hr : -32768 ≤ n ∧ n ≤ 32767 := by split at hn <;> omega
    refine ⟨?_, .inr (.inl ⟨rfl, hr.1, hr.2⟩)⟩
    rw [show M.wr 2 false n = [M.w8 (n.fdiv 1), M.w8 (n.fdiv 256)] from rfl, w8_mod, w8_mod, fdiv_pos n (by omega), fdiv_pos n (by omega), show n / 1 % 256 = a by split at hn <;> omega, show n / 256 % 256 = b by split at hn <;> omega]
  · obtain ⟨a, b, rfl⟩ := list2 hl
    obtain ⟨ha, hb⟩ := byt_cons hb
    obtain ⟨hb, _⟩ := byt_cons hb
    rw [rdb2]
    generalize hn : (if a * 256 + b ≥ 32768 then a * 256 + b - 65536 else a * 256 + b) = n
    have hr : -32768 ≤ n ∧ n ≤ 32767 := by split at hn <;> omega
    refine ⟨?_, .inr (.inl ⟨rfl, hr.1, hr.2⟩)⟩
    rw [show M.wr 2 true n = [M.w8 (n.fdiv 256), M.w8 (n.fdiv 1)] from rfl, w8_mod, w8_mod, fdiv_pos n (by omega), fdiv_pos n (by omega), show n / 1 % 256 = b by split at hn <;> omega, show n / 256 % 256 = a by split at hn <;> omega]
  · obtain ⟨a, b, c, rfl⟩ := list3 hl
    obtain ⟨ha, hb⟩ := byt_cons hb
    obtain ⟨hb, hc⟩ := byt_cons hb
    obtain ⟨hc, _⟩ := byt_cons hc
    rw [rdl3]
    generalize hn : (if (c * 256 + b) * 256 + a ≥ 8388608 then (c * 256 + b) * 256 + a - 16777216 else (c * 256 + b) * 256 + a) = n
    have hr : -8388608 ≤ n ∧ n ≤ 8388607 := by split at hn <;> omega
    refine ⟨?_, .inr (.inr (.inl ⟨rfl, hr.1, hr.2⟩))⟩
    rw [show M.wr 3 false n = [M.w8 (n.fdiv 1), M.w8 (n.fdiv 256), M.w8 (n.fdiv 65536)] from rfl, w8_mod, w8_mod, w8_mod, fdiv_pos n (by omega), fdiv_pos n (by omega), fdiv_pos n (by omega), show n / 1 % 256 = a by split at hn <;> omega,
      show n / 256 % 256 = b by split at hn <;> omega, show n / 65536 % 256 = c by split at hn <;> omega]
  · obtain ⟨a, b, c, rfl⟩ := list3 hl
    obtain ⟨ha, hb⟩ := byt_cons hb
    obtain ⟨hb, hc⟩ := byt_cons hb
    obtain ⟨hc, _⟩ := byt_cons hc
    rw [rdb3]
    generalize hn : (if (a * 256 + b) * 256 + c ≥ 8388608 then (a * 256 + b) * 256 + c - 16777216 else (a * 256 + b) * 256 + c) = n
    have hr : -8388608 ≤ n ∧ n ≤ 8388607 := by split at hn <;> omega
    refine ⟨?_, .inr (.inr (.inl ⟨rfl, hr.1, hr.2⟩))⟩
    rw [show M.wr 3 true n = [M.w8 (n.fdiv 65536), M.w8 (n.fdiv 256), M.w8 (n.fdiv 1)] from rfl, w8_mod, w8_mod, w8_mod, fdiv_pos n (by omega), fdiv_pos n (by omega), fdiv_pos n (by omega), show n / 1 % 256 = c by split at hn <;> omega,
      show n / 256 % 256 = b by split at hn <;> omega, show n / 65536 % 256 = a by split at hn <;> omega]
  · obtain ⟨a, b, c, d, rfl⟩ := list4 hl
    obtain ⟨ha, hb⟩ := byt_cons hb
    obtain ⟨hb, hc⟩ := byt_cons hb
    obtain ⟨hc, hd⟩ := byt_cons hc
    obtain ⟨hd, _⟩ := byt_cons hd
    rw [rdl4]
    generalize hn : (if ((d * 256 + c) * 256 + b) * 256 + a ≥ 2147483648 then ((d * 256 + c) * 256 + b) * 256 + a - 4294967296 else ((d * 256 + c) * 256 + b) * 256 + a) = n
    have hr : -2147483648 ≤ n ∧ n ≤ 2147483647 := by split at hn <;> omega
    refine ⟨?_, .inr (.inr (.inr ⟨rfl, hr.1, hr.2⟩))⟩
    rw [show M.wr 4 false n = [M.w8 (n.fdiv 1), M.w8 (n.fdiv 256), M.w8 (n.fdiv 65536), M.w8 (n.fdiv 16777216)] from rfl, w8_mod, w8_mod, w8_mod, w8_mod, fdiv_pos n (by omega), fdiv_pos n (by omega), fdiv_pos n (by omega), fdiv_pos n (by omega), show n / 1 % 256 = a by split at hn <;> omega,
      show n / 256 % 256 = b by split at hn <;> omega, show n / 65536 % 256 = c by split at hn <;> omega, show n / 16777216 % 256 = d by split at hn <;> omega]
  · obtain ⟨a, b, c, d, rfl⟩ := list4 hl
    obtain ⟨ha, hb⟩ := byt_cons hb
    obtain ⟨hb, hc⟩ := byt_cons hb
    obtain ⟨hc, hd⟩ := byt_cons hc
    obtain ⟨hd, _⟩ := byt_cons hd
    rw [rdb4]
    generalize hn : (if ((a * 256 + b) * 256 + c) * 256 + d ≥ 2147483648 then ((a * 256 + b) * 256 + c) * 256 + d - 4294967296 else ((a * 256 + b) * 256 + c) * 256 + d) = n
    have hr : -2147483648 ≤ n ∧ n ≤ 2147483647 := by split at hn <;> omega
    refine ⟨?_, .inr (.inr (.inr ⟨rfl, hr.1, hr.2⟩))⟩
    rw [show M.wr 4 true n = [M.w8 (n.fdiv 16777216), M.w8 (n.fdiv 65536), M.w8 (n.fdiv 256), M.w8 (n.fdiv 1)] from rfl, w8_mod, w8_mod, w8_mod, w8_mod, fdiv_pos n (by omega), fdiv_pos n (by omega), fdiv_pos n (by omega), fdiv_pos n (by omega), show n / 1 % 256 = d by split at hn <;> omega,
      show n / 256 % 256 = c by split at hn <;> omega, show n / 65536 % 256 = b by split at hn <;> omega, show n / 16777216 % 256 = a by split at hn <;> omega]

theorem smp_iff {s : Int} : M.smp s = true ↔ -8388608 ≤ s ∧ s ≤ 8388607 := by
  unfold M.smp
  rw [Bool.and_eq_true, decide_eq_true_iff, decide_eq_true_iff]
/-- the nearest sample -/
theorem sat_eq (n : Int) : M.sat n = if n < -8388608 then -8388608 else if n > 8388607 then 8388607 else n := by
  unfold M.sat
  simp only [cond_true]
  rw [w32_in]
  · split <;> split <;> split <;> (try split) <;> omega
  · split <;> split <;> omega
  · split <;> split <;> omega
theorem sat_smp (n : Int) : M.smp (M.sat n) = true := by
  rw [smp_iff, sat_eq]; split <;> (try split) <;> omega
theorem sat_id {n : Int} (h : M.smp n = true) : M.sat n = n := by
  rw [smp_iff] at h
  rw [sat_eq, if_neg (by omega), if_neg (by omega)]
/-- the integer that is written -/
theorem num_eq {sz s : Int} (h : M.smp s = true) : M.num sz s = if sz = 1 then (if 128 + (s + 32768) / 65536 < 255 then 128 + (s + 32768) / 65536 else 255) else if sz = 2 then (if (s + 128) / 256 < 32767 then (s + 128) / 256 else 32767) else if sz = 4 then s * 256 else s := by
  rw [smp_iff] at h
  unfold M.num
  rw [w64_in (n := s) (by omega) (by omega), w64_in (n := s + 32768) (by omega) (by omega), w64_in (n := s + 128) (by omega) (by omega), w64_in (n := s * 256) (by omega) (by omega), fdiv_pos _ (by omega), fdiv_pos _ (by omega), w64_in (n := 128 + (s + 32768) / 65536) (by omega) (by omega)]
  by_cases h1 : sz = 1
  · subst h1; rfl
  · rw [if_neg h1, show (sz == 1) = false by simpa using h1]
    by_cases h2 : sz = 2
    · subst h2; rfl
    · rw [if_neg h2, show (sz == 2) = false by simpa using h2]
      by_cases h4 : sz = 4
      · subst h4; rfl
      · rw [if_neg h4, show (sz == 4) = false by simpa using h4]; rfl
theorem num_in {sz s : Int} {bg : Bool} (hf : M.okF sz bg = true) (h : M.smp s = true) : InR sz (M.num sz s) := by
  rw [num_eq h]
  rw [smp_iff] at h
  unfold InR
  rcases okF_cases hf with ⟨rfl, _⟩ | ⟨rfl, _⟩ | ⟨rfl, _⟩ | ⟨rfl, _⟩ | ⟨rfl, _⟩ | ⟨rfl, _⟩ | ⟨rfl, _⟩ <;> simp <;> (try split) <;> omega
/-- the sample of an integer -/
theorem decS_eq {sz : Int} {bg : Bool} {S : List Int} (h : InR sz (M.rd sz bg S)) : M.decS sz bg S = M.sat (if sz = 1 then (M.rd sz bg S - 128) * 65536 else if sz = 2 then M.rd sz bg S * 256 else if sz = 4 then (M.rd sz bg S + 128) / 256 else M.rd sz bg S) := by
  unfold M.decS
  unfold InR at h
  generalize M.rd sz bg S = n at h
  congr 1
  rcases h with ⟨rfl, h1, h2⟩ | ⟨rfl, h1, h2⟩ | ⟨rfl, h1, h2⟩ | ⟨rfl, h1, h2⟩
  · simp only [if_true]
    rw [w64_in (n := n - 128) (by omega) (by omega), w64_in (by omega) (by omega)]; rfl
  · rw [if_neg (by omega), if_pos rfl, w64_in (n := n * 256) (by omega) (by omega)]; rfl
  · rfl
  · rw [if_neg (by omega), if_neg (by omega), if_pos rfl, w64_in (n := n + 128) (by omega) (by omega), fdiv_pos _ (by omega)]; rfl
/-- a sample that is written and read again -/
def again (sz s : Int) : Int := M.sat (if sz = 1 then (M.num 1 s - 128) * 65536 else if sz = 2 then M.num 2 s * 256 else if sz = 4 then (M.num 4 s + 128) / 256 else M.num 3 s)
theorem dec_enc {sz s : Int} {bg : Bool} (hf : M.okF sz bg = true) (h : M.smp s = true) : M.decS sz bg (M.encS sz bg s) = again sz s := by
  have hn := num_in hf h
  unfold M.encS
  have hr := rd_wr hf hn
  rw [decS_eq (by rw [hr]; exact hn), hr]
  unfold again
  rcases okF_cases hf with ⟨rfl, _⟩ | ⟨rfl, _⟩ | ⟨rfl, _⟩ | ⟨rfl, _⟩ | ⟨rfl, _⟩ | ⟨rfl, _⟩ | ⟨rfl, _⟩ <;> rfl
theorem again_id {sz s : Int} (hs : sz = 3 ∨ sz = 4) (h : M.smp s = true) : again sz s = s := by
  unfold again
  rcases hs with rfl | rfl
  · simp only [num_eq h]; simp; exact sat_id h
  · simp only [num_eq h]; simp
    rw [show (s * 256 + 128) / 256 = s by omega]; exact sat_id h
theorem decS_smp (sz : Int) (bg : Bool) (S : List Int) : M.smp (M.decS sz bg S) = true := sat_smp _
theorem enc_dec {sz : Int} {bg : Bool} (hf : M.okF sz bg = true) (h3 : sz ≤ 3) {S : List Int} (hl : (S.length : Int) = sz) (hb : M.byt S = true) : M.encS sz bg (M.decS sz bg S) = S := by
  obtain ⟨h1, h2⟩ := wr_rd hf hl hb
  unfold M.encS
  suffices M.num sz (M.decS sz bg S) = M.rd sz bg S by rw [this]; exact h1
  rw [num_eq (decS_smp _ _ _), decS_eq h2]
  unfold InR at h2
  generalize M.rd sz bg S = n at h2
  rcases h2 with ⟨rfl, a, b⟩ | ⟨rfl, a, b⟩ | ⟨rfl, a, b⟩ | ⟨rfl, a, b⟩
  · simp only [if_true]
    rw [sat_id (by rw [smp_iff]; omega)]
    split <;> omega
  · simp
    rw [sat_id (by rw [smp_iff]; omega)]
    split <;> omega
  · simp
    exact sat_id (by rw [smp_iff]; omega)
  · omega
theorem kind_okF {k : Int} (h1 : 1 ≤ k) (h2 : k ≤ 7) : M.okF (M.fsz k) (M.fbg k) = true := by
  rcases kinds k with rfl | rfl | rfl | rfl | rfl | rfl | rfl | ⟨a1, a2, a3, a4, a5, a6, a7⟩ <;> first | rfl | skip
  simp at a1 a2 a3 a4 a5 a6 a7
  omega
theorem chunk_append_left {a b : List Int} {n : Nat} (h : a.length = n) : M.chunk (a ++ b) 0 n = a := by
  unfold M.chunk; rw [List.drop_zero, List.take_left' h]
theorem chunk_append_right {a b : List Int} {n m : Nat} (h : a.length = n) (i : Nat) : M.chunk (a ++ b) (n + i) m = M.chunk b i m := by
  unfold M.chunk; rw [← List.drop_drop, List.drop_left' h]
/-- the chunks of rows of equal length -/
theorem chunk_flatMap (f : Int → List Int) {n : Nat} (hf : ∀ x, (f x).length = n) : ∀ (l : List Int) (j : Nat), j < l.length → M.chunk (l.flatMap f) (n * j) n = f (l.getD j 0)
  | x :: l, 0, _ => by
    rw [List.flatMap_cons, Nat.mul_zero, chunk_append_left (hf x)]; rfl
  | x :: l, j + 1, h => by
    rw [List.flatMap_cons, Nat.mul_succ, Nat.add_comm, chunk_append_right (hf x), chunk_flatMap f hf l j (by simpa using h)]
    simp
theorem flatMap_len (f : Int → List Int) {n : Nat} (hf : ∀ x, (f x).length = n) : ∀ (l : List Int), (l.flatMap f).length = n * l.length
  | [] => rfl
  | x :: l => by rw [List.flatMap_cons, List.length_append, hf, flatMap_len f hf l, List.length_cons, Nat.mul_succ]; omega
theorem map_range_getD (g : Int → Int) (l : List Int) : (List.range l.length).map (fun j => g (l.getD j 0)) = l.map g := by
  refine List.ext_getElem (by simp) fun i h1 h2 => ?_
  simp only [List.length_map, List.length_range] at h1
  simp [List.getElem?_eq_getElem h1]
/-- samples that are written and read again -/
theorem dec_flatMap {sz : Int} {bg : Bool} (hf : M.okF sz bg = true) {l : List Int} (hl : ∀ s ∈ l, M.smp s = true) : M.decAll sz bg (l.flatMap (M.encS sz bg)) = l.map (again sz) := by
  obtain ⟨z1, z2, z3⟩ := okF_sz hf
  have hlen : (l.flatMap (M.encS sz bg)).length = sz.toNat * l.length := flatMap_len _ (fun x => wr_len _ _ _) l
  unfold M.decAll
  rw [hlen, Nat.mul_div_cancel_left _ (by omega)]
  unfold M.decN
  rw [← map_range_getD]
  refine List.map_congr_left fun j hj => ?_
  rw [List.mem_range] at hj
  rw [chunk_flatMap (M.encS sz bg) (fun x => wr_len _ _ _) l j hj]
  refine dec_enc hf (hl _ ?_)
  rw [List.getD_eq_getElem?_getD, List.getElem?_eq_getElem hj]
  exact List.getElem_mem hj
theorem take_chunk (l : List Int) (i n : Nat) : l.take i ++ M.chunk l i n = l.take (i + n) := by
  unfold M.chunk; rw [List.take_add]
/-- bytes that are read and written again -/
theorem enc_decN {sz : Int} {bg : Bool} (hf : M.okF sz bg = true) (h3 : sz ≤ 3) {S : List Int} (hb : M.byt S = true) : ∀ (n : Nat), sz.toNat * n ≤ S.length → (M.decN sz bg S n).flatMap (M.encS sz bg) = S.take (sz.toNat * n)
  | 0, _ => by simp [M.decN]
  | n + 1, h => by
    obtain ⟨z1, z2, z3⟩ := okF_sz hf
    have hle : sz.toNat * n + sz.toNat ≤ S.length := by rw [Nat.mul_succ] at h; exact h
    rw [decN_snoc, List.flatMap_append, enc_decN hf h3 hb n (by omega), Nat.mul_succ, ← take_chunk]
    congr 1
    simp only [List.flatMap_cons, List.flatMap_nil, List.append_nil]
    exact enc_dec hf h3 (by rw [chunk_len hle]; exact z3) (chunk_byt hb _ _)
theorem enc_decAll {sz : Int} {bg : Bool} (hf : M.okF sz bg = true) (h3 : sz ≤ 3) {S : List Int} (hb : M.byt S = true) (hm : S.length % sz.toNat = 0) : (M.decAll sz bg S).flatMap (M.encS sz bg) = S := by
  have hd := Nat.div_add_mod S.length sz.toNat
  unfold M.decAll
  rw [enc_decN hf h3 hb _ (by omega), show sz.toNat * (S.length / sz.toNat) = S.length by omega, List.take_length]
theorem decAll_smp (sz : Int) (bg : Bool) (S : List Int) : ∀ s ∈ M.decAll sz bg S, M.smp s = true := by
  intro s hs
  unfold M.decAll M.decN at hs
  obtain ⟨j, _, rfl⟩ := List.mem_map.1 hs
  exact decS_smp _ _ _
theorem all_smp {l : List Int} (h : ∀ s ∈ l, M.smp s = true) : l.all M.smp = true := List.all_eq_true.2 h
theorem byt_flatMap (sz : Int) (bg : Bool) (l : List Int) : M.byt (l.flatMap (M.encS sz bg)) = true := by
  unfold M.byt
  rw [List.all_eq_true]
  intro x hx
  obtain ⟨s, _, hs⟩ := List.mem_flatMap.1 hx
  have := byt_wr sz bg (M.num sz s)
  unfold M.byt at this
  exact List.all_eq_true.1 this x hs
/-- what encoding and decoding give where they refuse nothing -/
theorem enc_ok {k : Int} (h1 : 1 ≤ k) (h2 : k ≤ 7) {l : List Int} (hl : ∀ s ∈ l, M.smp s = true) (hn : l.length ≤ 524288) : M.encE k l = 0 ∧ M.encL k l = l.flatMap (M.encS (M.fsz k) (M.fbg k)) := by
  have hf := kind_okF h1 h2
  have hz : (M.fsz k == 0) = false := by have := okF_sz hf; simp; omega
  have hE : M.encE k l = 0 := by unfold M.encE; rw [hz, decide_eq_false (by omega), all_smp hl]; rfl
  exact ⟨hE, by unfold M.encL; rw [hE]; rfl⟩
theorem dec_ok {k : Int} (h1 : 1 ≤ k) (h2 : k ≤ 7) {l : List Int} (hm : l.length % (M.fsz k).toNat = 0) (hn : l.length ≤ 524288) : M.decE k l = 0 ∧ M.decL k l = M.decAll (M.fsz k) (M.fbg k) l := by
  have hf := kind_okF h1 h2
  have hz : (M.fsz k == 0) = false := by have := okF_sz hf; simp; omega
  have hd : l.length / (M.fsz k).toNat ≤ l.length := Nat.div_le_self _ _
  have hE : M.decE k l = 0 := by unfold M.decE; rw [hz, decide_eq_false (by omega), hm]; rfl
  exact ⟨hE, by unfold M.decL; rw [hE]; rfl⟩
theorem map_again {sz : Int} (hs : sz = 3 ∨ sz = 4) {l : List Int} (hl : ∀ s ∈ l, M.smp s = true) : l.map (again sz) = l := by
  have : l.map (again sz) = l.map id := List.map_congr_left fun s h => again_id hs (hl s h)
  rw [this, List.map_id]
theorem there24 {k : Int} (h1 : 4 ≤ k) (h2 : k ≤ 7) {l : List Int} (hl : ∀ s ∈ l, M.smp s = true) (hn : l.length ≤ 100000) : M.encE k l = 0 ∧ M.byt (M.encL k l) = true ∧ (M.encL k l).length ≤ 400000 ∧ M.decE k (M.encL k l) = 0 ∧ M.decL k (M.encL k l) = l := by
  have hf := kind_okF (show 1 ≤ k by omega) h2
  obtain ⟨z1, z2, z3⟩ := okF_sz hf
  have hs : M.fsz k = 3 ∨ M.fsz k = 4 := by
    rcases kinds k with rfl | rfl | rfl | rfl | rfl | rfl | rfl | ⟨a1, a2, a3, a4, a5, a6, a7⟩ <;> first | omega | exact .inl rfl | exact .inr rfl | (simp at a1 a2 a3 a4 a5 a6 a7; omega)
  obtain ⟨hE, hL⟩ := enc_ok (show 1 ≤ k by omega) h2 hl (by omega)
  have hlen : (l.flatMap (M.encS (M.fsz k) (M.fbg k))).length = (M.fsz k).toNat * l.length := flatMap_len _ (fun x => wr_len _ _ _) l
  have hle : (M.fsz k).toNat * l.length ≤ 4 * 100000 := Nat.mul_le_mul (by omega) hn
  obtain ⟨dE, dL⟩ := dec_ok (show 1 ≤ k by omega) h2 (l := M.encL k l) (by rw [hL, hlen]; exact Nat.mul_mod_right _ _) (by rw [hL, hlen]; omega)
  refine ⟨hE, by rw [hL]; exact byt_flatMap _ _ _, by rw [hL, hlen]; omega, dE, ?_⟩
  rw [dL, hL, dec_flatMap hf hl, map_again hs hl]
theorem back16 {k : Int} (h1 : 1 ≤ k) (h2 : k ≤ 5) {b : List Int} (hb : M.byt b = true) (hm : b.length % 6 = 0) (hn : b.length ≤ 100000) : M.decE k b = 0 ∧ M.encE k (M.decL k b) = 0 ∧ M.encL k (M.decL k b) = b := by
  have hf := kind_okF h1 (show k ≤ 7 by omega)
  obtain ⟨z1, z2, z3⟩ := okF_sz hf
  have hs : M.fsz k = 1 ∨ M.fsz k = 2 ∨ M.fsz k = 3 := by
    rcases kinds k with rfl | rfl | rfl | rfl | rfl | rfl | rfl | ⟨a1, a2, a3, a4, a5, a6, a7⟩ <;> first | omega | exact .inl rfl | exact .inr (.inl rfl) | exact .inr (.inr rfl) | (simp at a1 a2 a3 a4 a5 a6 a7; omega)
  have hmm : b.length % (M.fsz k).toNat = 0 := by rcases hs with h | h | h <;> rw [h] <;> simp <;> omega
  obtain ⟨dE, dL⟩ := dec_ok h1 (show k ≤ 7 by omega) hmm (by omega)
  have hlen : (M.decAll (M.fsz k) (M.fbg k) b).length ≤ b.length := by unfold M.decAll; rw [decN_len]; exact Nat.div_le_self _ _
  obtain ⟨hE, hL⟩ := enc_ok h1 (show k ≤ 7 by omega) (l := M.decAll (M.fsz k) (M.fbg k) b) (decAll_smp _ _ _) (by omega)
  rw [dL]
  exact ⟨dE, hE, by rw [hL, enc_decAll hf (by omega) hb hmm]⟩
end Sp
end Go.Proofs.Ytooiechjanmdjaa
