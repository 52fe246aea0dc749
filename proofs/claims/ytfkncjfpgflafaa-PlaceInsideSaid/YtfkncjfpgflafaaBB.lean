/- Long numbers: sums, differences, comparison. Plain. -/
import Derived.Test.YtfkncjfpgflafaaBA
import Derived.Test.YtfkncjfpgflafaaPZ
namespace Go.Proofs.Ytfkncjfpgflafaa.X
open Go Go.RowKit
set_option linter.unusedVariables false
set_option linter.unusedSimpArgs false
set_option linter.unusedSectionVars false
/-- The number v, as the program keeps it. -/
def big (v : Int) : T_exact_Int := ⟨decide (v < 0), digs v.natAbs⟩
theorem big_neg (v : Int) : (big v).fneg = decide (v < 0) := rfl
theorem big_len (v : Int) : (big v).fmag.length = dlen v := rfl
theorem big_Dg (v : Int) : Dg (big v).fmag := (digs_ok _).1
theorem big_Nz (v : Int) : Nz (big v).fmag := (digs_ok _).2.1
theorem big_val (v : Int) : val (big v).fmag = (v.natAbs : Int) := (digs_ok _).2.2
theorem big_eta (v : Int) : T_exact_Int.mk (big v).fneg (big v).fmag = big v := rfl
theorem digs_nil {n : Nat} (h : digs n = []) : n = 0 := by
  have := (digs_ok n).2.2
  rw [h, show val [] = 0 from rfl] at this
  omega
theorem big_len0 {v : Int} : (big v).fmag.length = 0 ↔ v = 0 := by
  constructor
  · intro h
    have := digs_nil (List.length_eq_zero_iff.1 h)
    omega
  · rintro rfl; rfl
theorem made_ok {neg : Bool} {mag : List Int} (hd : Dg mag) (hl : mag.length ≤ 1000000000000) : Ok (P_exact_made neg mag) (fun r => r = big (if neg then - val mag else val mag)) := by
  unfold P_exact_made
  refine ok_bd (R := fun s => Dg s ∧ Nz s ∧ val s = val mag) ?_ ?_
  · refine ok_lp (fun s => Dg s ∧ val s = val mag ∧ s.length ≤ mag.length) (fun s => s.length) ⟨hd, rfl, Nat.le_refl _⟩ (by omega) ?_
    rintro s ⟨h1, h2, h3⟩
    unfold P_exact_made_L1
    refine ok_ck (fun _ => by omega) (ok_lv (ok_ck (fun h => ?_) (ok_lv (ok_lv (ok_ite (fun h => ?_) fun h => ok_some ⟨h1, ?_, h2⟩)))))
    · simp only [decide_eq_true_eq] at h; omega
    · simp only [Bool.and_eq_true, decide_eq_true_eq] at h
      obtain ⟨p, q⟩ := h
      refine ok_ar (by omega) (ok_ck (by omega) (ok_lv (ok_some ⟨⟨Dg_sub0 h1 _, ?_, ?_⟩, ?_⟩)))
      · rw [val_sub0 (by omega) (by omega), ← h2]
        have e := V_succ s (s.length - 1)
        rw [show s.length - 1 + 1 = s.length by omega, show ((s.length - 1 : Nat) : Int) = (s.length : Int) - 1 by omega, q] at e
        unfold val
        rw [e, show ((s.length : Int) - 1).toNat = s.length - 1 by omega]; simp
      · have := sub0_len (xs := s) (b := (s.length : Int) - 1) (by omega) (by omega); omega
      · have := sub0_len (xs := s) (b := (s.length : Int) - 1) (by omega) (by omega); omega
    · intro hne hz
      have : 0 < s.length := List.length_pos_iff.2 hne
      simp only [Bool.and_eq_true, decide_eq_true_eq] at h
      exact h ⟨by omega, hz⟩
  rintro s ⟨h1, h2, h3⟩
  refine ok_lv (ok_some ?_)
  have h4 := (val_bound h1).1
  have h5 := digs_of h1 h2
  have h6 : (val s = 0 ↔ s = []) := by
    constructor
    · intro e; rw [h5, e]; rfl
    · rintro rfl; rfl
  have h7 : 0 < s.length ↔ val s ≠ 0 := by
    rw [List.length_pos_iff]
    exact ⟨fun h e => h (h6.1 e), fun h e => h (h6.2 e)⟩
  unfold big
  rw [← h3]
  cases neg with
  | false =>
    simp only [Bool.false_and, Bool.false_eq_true, if_false]
    rw [show decide (val s < 0) = false from decide_eq_false (by omega), show (val s).natAbs = (val s).toNat by omega, ← h5]
  | true =>
    simp only [Bool.true_and, if_true]
    rw [show (- val s).natAbs = (val s).toNat by omega, ← h5]
    congr 1
    by_cases e : val s = 0
    · rw [e, decide_eq_false (by rw [Int.natCast_pos, h7]; omega)]; rfl
    · rw [decide_eq_true (by rw [Int.natCast_pos, h7]; omega), decide_eq_true (by omega)]
theorem Of_ok {x : Int} (hx : I64 x) : Ok (P_exact_Of x) (fun r => r = big x) := by
  unfold P_exact_Of
  refine ok_lv (ok_bd (R := fun r => r = (x.natAbs : Int)) (ok_ite (fun h => ok_lv (ok_some (by omega))) fun h => ok_some (by omega)) ?_)
  rintro _ rfl
  refine ok_lv (ok_ck (by omega) (ok_lv ?_))
  rw [shr_u64_32]
  refine ok_lv (ok_bd (made_ok (Dg_cons (by omega) (Dg_cons (by omega) Dg_nil)) (by simp)) ?_)
  rintro _ rfl
  refine ok_some ?_
  congr 1
  rw [val_cons, val_cons, show val [] = 0 from rfl]
  by_cases h : x < 0
  · rw [decide_eq_true h, if_pos rfl]; omega
  · rw [decide_eq_false h]; simp only [Bool.false_eq_true, if_false]; omega
theorem V_put {xs : List Int} {i x : Int} (hi : inb i xs.length) : V (stt xs i x) (i + 1).toNat = V xs i.toNat + x * 4294967296 ^ i.toNat := by
  have h0 := hi.1
  rw [V_stt hi, if_pos (by omega), V_cut xs h0]
  grind
theorem addMag_ok {a b : List Int} (ha : Dg a) (hb : Dg b) (la : a.length ≤ 1000000000) (lb : b.length ≤ 1000000000) : Ok (P_exact_addMag a b) (fun r => Dg r ∧ val r = val a + val b ∧ r.length ≤ 1000000001) := by
  unfold P_exact_addMag
  refine ok_bd (R := fun p => Dg p.1 ∧ Dg p.2 ∧ val p.1 + val p.2 = val a + val b ∧ p.2.length ≤ p.1.length ∧ p.1.length ≤ 1000000000) (ok_ite (fun h => ok_some ⟨hb, ha, Int.add_comm _ _, by simp only; omega, lb⟩) fun h => ok_some ⟨ha, hb, rfl, by simp only; omega, la⟩) ?_
  rintro ⟨u, v⟩ ⟨hu, hv, hs, hl, lu⟩
  simp only at hu hv hs hl lu
  refine ok_ar (by omega) (ok_ck (by simp only [mkOk]; omega) (ok_lv ?_))
  refine ok_bd (R := fun s => s.1.length = u.length + 1 ∧ Dg s.1 ∧ (0 ≤ s.2 ∧ s.2 ≤ 1) ∧ V s.1 u.length + s.2 * 4294967296 ^ u.length = V u u.length + V v u.length) ?_ ?_
  · refine ok_lp (fun s => (0 ≤ s.2.2 ∧ s.2.2 ≤ u.length) ∧ s.1.length = u.length + 1 ∧ Dg s.1 ∧ (0 ≤ s.2.1 ∧ s.2.1 ≤ 1) ∧ V s.1 s.2.2.toNat + s.2.1 * 4294967296 ^ s.2.2.toNat = V u s.2.2.toNat + V v s.2.2.toNat) (fun s => ((u.length : Int) - s.2.2).toNat)
      ⟨⟨by simp, by simp only; omega⟩, by simp only [List.length_replicate]; omega, Dg_rep _, by simp only; omega, by simp [V_zero]⟩ (by simp only; omega) ?_
    rintro ⟨out, c, i⟩ ⟨⟨i0, i1⟩, l1, d1, ⟨c0, c1⟩, e1⟩
    simp only at i0 i1 l1 d1 c0 c1 e1
    unfold P_exact_addMag_L6
    dsimp only
    refine ok_ite (fun hlt => ?_) fun hge => ok_some ⟨l1, d1, ⟨c0, c1⟩, by rw [show i.toNat = u.length by omega] at e1; exact e1⟩
    have hi : inb i u.length := ⟨i0, hlt⟩
    have gu := hu i
    have gv := hv i
    refine ok_ck hi (ok_lv (ok_lv (ok_lv (ok_bd (R := fun r => r = c + gt u i + gt v i) (ok_ite (fun h => ok_ck ⟨i0, h⟩ (ok_lv (ok_lv (ok_lv (ok_some (by omega)))))) fun h => ok_some ?_) ?_))))
    · rw [gt_past (xs := v) i0 (by omega)]; omega
    rintro _ rfl
    refine ok_lv (ok_ck ⟨i0, by omega⟩ (ok_lv (ok_ck (by omega) (ok_lv ?_))))
    rw [shr_u64_32]
    have ho : inb i out.length := ⟨i0, by omega⟩
    refine ok_ar (by omega) (ok_some ⟨⟨⟨by simp only; omega, by simp only; omega⟩, by simp only; rw [stt_length]; exact l1, Dg_stt d1 ho (by omega), ⟨by simp only; omega, by simp only; omega⟩, ?_⟩, by simp only; omega⟩)
    simp only
    rw [V_put ho, V_cut u i0, V_cut v i0, show (i + 1).toNat = i.toNat + 1 by omega, powB_succ]
    have hc : (c + gt u i + gt v i) % 4294967296 + 4294967296 * ((c + gt u i + gt v i) / 4294967296) = c + gt u i + gt v i := by omega
    grind
  rintro ⟨out, c⟩ ⟨l1, d1, ⟨c0, c1⟩, e1⟩
  simp only at l1 d1 c0 c1 e1
  have ho : inb (u.length : Int) out.length := ⟨by omega, by omega⟩
  refine ok_lv (ok_ck ho (ok_lv (ok_some ⟨Dg_stt d1 ho (by omega), ?_, by rw [stt_length]; omega⟩)))
  have e2 := V_put (x := c % 4294967296) ho
  rw [show ((u.length : Int) + 1).toNat = out.length by omega, Int.toNat_natCast] at e2
  unfold val
  rw [stt_length, e2, show c % 4294967296 = c by omega, e1, V_ge (Nat.le_refl _), V_ge hl]
  exact hs
theorem subMag_ok {a b : List Int} (ha : Dg a) (hb : Dg b) (hab : val b ≤ val a) (hl : b.length ≤ a.length) (la : a.length ≤ 1000000000) : Ok (P_exact_subMag a b) (fun r => Dg r ∧ val r = val a - val b ∧ r.length = a.length) := by
  unfold P_exact_subMag
  refine ok_ck (by simp only [mkOk]; omega) (ok_lv ?_)
  refine ok_bd (R := fun s => s.length = a.length ∧ Dg s ∧ ∃ w : Int, (w = 0 ∨ w = -1) ∧ V s a.length + w * 4294967296 ^ a.length = V a a.length - V b a.length) ?_ ?_
  · refine ok_lp (fun s => (0 ≤ s.2.2 ∧ s.2.2 ≤ a.length) ∧ s.1.length = a.length ∧ Dg s.1 ∧ (s.2.1 = 0 ∨ s.2.1 = -1) ∧ V s.1 s.2.2.toNat + s.2.1 * 4294967296 ^ s.2.2.toNat = V a s.2.2.toNat - V b s.2.2.toNat) (fun s => ((a.length : Int) - s.2.2).toNat)
      ⟨⟨by simp, by simp only; omega⟩, by simp, Dg_rep _, .inl rfl, by simp [V_zero]⟩ (by simp only; omega) ?_
    rintro ⟨out, c, i⟩ ⟨⟨i0, i1⟩, l1, d1, hc, e1⟩
    simp only at i0 i1 l1 d1 hc e1
    unfold P_exact_subMag_L4
    dsimp only
    refine ok_ite (fun hlt => ?_) fun hge => ok_some ⟨l1, d1, c, hc, by rw [show i.toNat = a.length by omega] at e1; exact e1⟩
    have hi : inb i a.length := ⟨i0, hlt⟩
    have ga := ha i
    have gb := hb i
    refine ok_ck hi (ok_lv (ok_ar (by omega) (ok_ar (by omega) (ok_bd (R := fun r => r = gt a i + c - gt b i) (ok_ite (fun h => ok_ck ⟨i0, h⟩ (ok_lv (ok_ar (by omega) (ok_ar (by omega) (ok_some rfl))))) fun h => ok_some ?_) ?_))))
    · rw [gt_past (xs := b) i0 (by omega)]; omega
    rintro _ rfl
    refine ok_lv (ok_ck ⟨i0, by omega⟩ (ok_lv (ok_ck (by omega) (ok_lv ?_))))
    rw [shr_i64_32]
    have ho : inb i out.length := ⟨i0, by omega⟩
    refine ok_ar (by omega) (ok_some ⟨⟨⟨by simp only; omega, by simp only; omega⟩, by simp only; rw [stt_length]; exact l1, Dg_stt d1 ho (by omega), by simp only; omega, ?_⟩, by simp only; omega⟩)
    simp only
    rw [V_put ho, V_cut a i0, V_cut b i0, show (i + 1).toNat = i.toNat + 1 by omega, powB_succ]
    have hq : (gt a i + c - gt b i) % 4294967296 + 4294967296 * ((gt a i + c - gt b i) / 4294967296) = gt a i + c - gt b i := by omega
    grind
  rintro out ⟨l1, d1, w, hw, e1⟩
  refine ok_some ⟨d1, ?_, l1⟩
  have e2 : V b a.length = val b := V_ge hl
  have e3 : V a a.length = val a := rfl
  have h1 := V_bound d1 a.length
  rw [e2, e3] at e1
  have e4 : val out = V out a.length := by unfold val; rw [l1]
  rw [e4]
  rcases hw with rfl | rfl
  · omega
  · exfalso
    have := powB a.length
    omega
theorem sign_ok (x : Int) : Ok (P_exact_sign x) (fun r => r = x.sign) := by
  unfold P_exact_sign
  refine ok_lv (ok_lv (ok_some ?_))
  rcases Int.lt_trichotomy x 0 with h | h | h
  · rw [Int.sign_eq_neg_one_of_neg h]; omega
  · subst h; rfl
  · rw [Int.sign_eq_one_of_pos h]; omega
theorem sign_of {x y : Int} (h1 : 0 < x → 0 < y) (h2 : x < 0 → y < 0) (h3 : x = 0 → y = 0) : x.sign = y.sign := by
  rcases Int.lt_trichotomy x 0 with h | h | h
  · rw [Int.sign_eq_neg_one_of_neg h, Int.sign_eq_neg_one_of_neg (h2 h)]
  · rw [h, h3 h]
  · rw [Int.sign_eq_one_of_pos h, Int.sign_eq_one_of_pos (h1 h)]
/-- The highest place that differs decides. -/
theorem V_lt_of {a b : List Int} (ha : Dg a) (hb : Dg b) {n : Nat} (h : gt a (n : Int) < gt b (n : Int)) : V a (n + 1) < V b (n + 1) := by
  have h1 := V_bound ha n
  have h2 := V_bound hb n
  rw [V_succ, V_succ]
  have := Int.mul_le_mul_of_nonneg_right (show gt a (n : Int) + 1 ≤ gt b (n : Int) by omega) (Int.le_of_lt (powB n))
  rw [Int.add_mul] at this
  omega
theorem cmpMag_ok {a b : List Int} (ha : Dg a) (hb : Dg b) (na : Nz a) (nb : Nz b) (la : a.length ≤ 1000000000000) (lb : b.length ≤ 1000000000000) : Ok (P_exact_cmpMag a b) (fun r => r = (val a - val b).sign) := by
  have key : ∀ {x y : List Int}, Dg x → Dg y → Nz y → x.length < y.length → val x < val y := by
    intro x y hx hy ny h
    have h1 := (val_bound hx).2
    have h2 := Nz_low hy ny (by intro e; rw [e] at h; simp at h)
    have h3 := powB_le (show x.length ≤ y.length - 1 by omega)
    omega
  unfold P_exact_cmpMag
  refine ok_ite (fun h => ok_ar (by omega) (ok_bd (sign_ok _) ?_)) fun h => ok_ar (by omega) ?_
  · rintro _ rfl
    refine ok_some (sign_of (fun q => ?_) (fun q => ?_) fun q => by omega)
    · have := key hb ha na (by omega); omega
    · have := key ha hb nb (by omega); omega
  have hl : a.length = b.length := by omega
  refine ok_bs (R := fun o => (∀ u, o = Sum.inl u → val a = val b) ∧ ∀ z, o = Sum.inr z → z = (val a - val b).sign) ?_ (fun x hx => ok_some ?_) fun y hy => ok_some (hy.2 y rfl)
  · refine ok_lp (fun i => (-1 ≤ i ∧ i < a.length) ∧ val a - V a (i + 1).toNat = val b - V b (i + 1).toNat) (fun i => (i + 1).toNat) ⟨by omega, ?_⟩ (by omega) ?_
    · rw [show ((a.length : Int) - 1 + 1).toNat = a.length by omega, V_ge (Nat.le_refl _), V_ge (by omega)]; omega
    rintro i ⟨⟨i0, i1⟩, e⟩
    unfold P_exact_cmpMag_L4
    refine ok_ite (fun hge => ?_) fun hlt => ok_some ⟨fun u _ => ?_, fun z q => by cases q⟩
    · refine ok_ck ⟨hge, i1⟩ (ok_lv (ok_ck ⟨hge, by omega⟩ (ok_lv (ok_ite (fun hne => ?_) fun heq => ?_))))
      · have ga := ha i
        have gb := hb i
        refine ok_ck ⟨hge, i1⟩ (ok_lv (ok_ar (by omega) (ok_ck ⟨hge, by omega⟩ (ok_lv (ok_ar (by omega) (ok_ar (by omega) (ok_bd (sign_ok _) ?_)))))))
        rintro _ rfl
        refine ok_some ⟨fun u q => (by cases q), fun z q => ?_⟩
        cases q
        obtain ⟨k, rfl⟩ := Int.eq_ofNat_of_zero_le hge
        rw [show ((k : Int) + 1).toNat = k + 1 by omega] at e
        refine sign_of (fun q => ?_) (fun q => ?_) fun q => absurd q (by omega)
        · have := V_lt_of hb ha (n := k) (by omega); omega
        · have := V_lt_of ha hb (n := k) (by omega); omega
      · have heq : gt a i = gt b i := Decidable.not_not.1 heq
        rw [V_cut a hge, V_cut b hge, heq] at e
        exact ok_ar (by omega) (ok_some ⟨⟨by omega, by rw [show i - 1 + 1 = i by omega]; omega⟩, by omega⟩)
    · rw [show (i + 1).toNat = 0 by omega, V_zero, V_zero] at e; omega
  · rw [hx.1 x rfl, Int.sub_self]; rfl
section
variable {a b : Int}
theorem plus_ok (la : dlen a ≤ 1000000000) (lb : dlen b ≤ 1000000000) : Ok (P_exact_plus (big a) (big b)) (fun r => r = big (a + b)) := by
  have va := big_val a
  have vb := big_val b
  unfold P_exact_plus
  refine ok_ite (fun h => ok_bd (addMag_ok (big_Dg a) (big_Dg b) la lb) ?_) fun h => ok_bd (cmpMag_ok (big_Dg a) (big_Dg b) (big_Nz a) (big_Nz b) (by rw [big_len]; omega) (by rw [big_len]; omega)) ?_
  · rintro s ⟨d, v, l⟩
    refine ok_bd (made_ok d (by omega)) ?_
    rintro _ rfl
    refine ok_some ?_
    congr 1
    rw [v, va, vb, big_neg]
    rw [big_neg, big_neg, beq_iff_eq, decide_eq_decide] at h
    by_cases q : a < 0
    · rw [decide_eq_true q, if_pos rfl]; omega
    · rw [decide_eq_false q]; simp only [Bool.false_eq_true, if_false]; omega
  · rintro _ rfl
    rw [va, vb]
    rw [big_neg, big_neg, beq_iff_eq, decide_eq_decide] at h
    have hlen : ∀ {x y : Int}, y.natAbs ≤ x.natAbs → (big y).fmag.length ≤ (big x).fmag.length := fun q => dlen_mono q
    refine ok_ite (fun hc => ?_) fun hc => ?_
    · have hle : b.natAbs ≤ a.natAbs := by
        rcases Nat.lt_or_ge a.natAbs b.natAbs with q | q
        · rw [Int.sign_eq_neg_one_of_neg (by omega)] at hc; omega
        · exact q
      refine ok_bd (subMag_ok (big_Dg a) (big_Dg b) (by rw [va, vb]; omega) (hlen hle) la) ?_
      rintro s ⟨d, v, l⟩
      refine ok_bd (made_ok d (by rw [l, big_len]; omega)) ?_
      rintro _ rfl
      refine ok_some ?_
      congr 1
      rw [v, va, vb, big_neg]
      by_cases q : a < 0
      · rw [decide_eq_true q, if_pos rfl]; omega
      · rw [decide_eq_false q]; simp only [Bool.false_eq_true, if_false]; omega
    · have hle : a.natAbs < b.natAbs := by
        rcases Nat.lt_or_ge a.natAbs b.natAbs with q | q
        · exact q
        · exfalso
          rcases Int.lt_or_le 0 ((a.natAbs : Int) - b.natAbs) with p | p
          · rw [Int.sign_eq_one_of_pos p] at hc; omega
          · rw [show (a.natAbs : Int) - b.natAbs = 0 by omega] at hc; exact hc (by decide)
      refine ok_bd (subMag_ok (big_Dg b) (big_Dg a) (by rw [va, vb]; omega) (hlen (by omega)) lb) ?_
      rintro s ⟨d, v, l⟩
      refine ok_bd (made_ok d (by rw [l, big_len]; omega)) ?_
      rintro _ rfl
      refine ok_some ?_
      congr 1
      rw [v, va, vb, big_neg]
      by_cases q : b < 0
      · rw [decide_eq_true q, if_pos rfl]; omega
      · rw [decide_eq_false q]; simp only [Bool.false_eq_true, if_false]; omega
theorem Neg_ok (la : dlen a ≤ 1000000000) : Ok (P_exact_Neg (big a)) (fun r => r = big (-a)) := by
  unfold P_exact_Neg
  refine ok_bd (made_ok (big_Dg a) (by rw [big_len]; omega)) ?_
  rintro _ rfl
  refine ok_some ?_
  congr 1
  rw [big_val, big_neg]
  by_cases q : a < 0
  · rw [decide_eq_true q]; simp only [Bool.not_true, Bool.false_eq_true, if_false]; omega
  · rw [decide_eq_false q]; simp only [Bool.not_false, if_true]; omega
theorem Abs_ok (la : dlen a ≤ 1000000000) : Ok (P_exact_Abs (big a)) (fun r => r = big (a.natAbs : Int)) := by
  unfold P_exact_Abs
  refine ok_bd (made_ok (big_Dg a) (by rw [big_len]; omega)) ?_
  rintro _ rfl
  refine ok_some ?_
  congr 1
  rw [big_val]; rfl
theorem Sign_ok : Ok (P_exact_Sign (big a)) (fun r => r = a.sign) := by
  unfold P_exact_Sign
  refine ok_ite (fun h => ok_some ?_) fun h => ok_ite (fun q => ok_some ?_) fun q => ok_some ?_
  · have := big_len0.1 (show (big a).fmag.length = 0 by omega)
    rw [this]; rfl
  · rw [big_neg, decide_eq_true_eq] at q
    rw [Int.sign_eq_neg_one_of_neg q]
  · rw [big_neg, decide_eq_true_eq] at q
    have h0 : a ≠ 0 := fun e => h (by rw [big_len0.2 e]; rfl)
    rw [Int.sign_eq_one_of_pos (by omega)]
theorem Cmp_ok (la : dlen a ≤ 1000000000) (lb : dlen b ≤ 1000000000) : Ok (P_exact_Cmp (big a) (big b)) (fun r => r = (a - b).sign) := by
  unfold P_exact_Cmp
  refine ok_bd Sign_ok ?_
  rintro _ rfl
  refine ok_bd Sign_ok ?_
  rintro _ rfl
  have sa : a.sign = -1 ∨ a.sign = 0 ∨ a.sign = 1 := by
    rcases Int.lt_trichotomy a 0 with h | h | h
    · exact .inl (Int.sign_eq_neg_one_of_neg h)
    · exact .inr (.inl (by rw [h]; rfl))
    · exact .inr (.inr (Int.sign_eq_one_of_pos h))
  have pa : ∀ x : Int, (x.sign = -1 ↔ x < 0) ∧ (x.sign = 0 ↔ x = 0) ∧ (x.sign = 1 ↔ 0 < x) := by
    intro x
    rcases Int.lt_trichotomy x 0 with h | h | h
    · rw [Int.sign_eq_neg_one_of_neg h]; omega
    · rw [h, show (0 : Int).sign = 0 from rfl]; omega
    · rw [Int.sign_eq_one_of_pos h]; omega
  obtain ⟨a1, a2, a3⟩ := pa a
  obtain ⟨b1, b2, b3⟩ := pa b
  have sb : b.sign = -1 ∨ b.sign = 0 ∨ b.sign = 1 := by
    rcases Int.lt_trichotomy b 0 with h | h | h
    · exact .inl (Int.sign_eq_neg_one_of_neg h)
    · exact .inr (.inl (by rw [h]; rfl))
    · exact .inr (.inr (Int.sign_eq_one_of_pos h))
  refine ok_ite (fun h => ?_) fun h => ?_
  · refine ok_bd Sign_ok ?_
    rintro _ rfl
    refine ok_bd Sign_ok ?_
    rintro _ rfl
    refine ok_ar (by omega) (ok_bd (sign_ok _) ?_)
    rintro _ rfl
    exact ok_some (sign_of (fun q => by omega) (fun q => by omega) fun q => by omega)
  · refine ok_ite (fun q => ok_bd (cmpMag_ok (big_Dg b) (big_Dg a) (big_Nz b) (big_Nz a) (by rw [big_len]; omega) (by rw [big_len]; omega)) ?_) fun q => ok_bd (cmpMag_ok (big_Dg a) (big_Dg b) (big_Nz a) (big_Nz b) (by rw [big_len]; omega) (by rw [big_len]; omega)) ?_
    · rintro _ rfl
      rw [big_neg, decide_eq_true_eq] at q
      rw [big_val, big_val]
      exact ok_some (sign_of (fun q => by omega) (fun q => by omega) fun q => by omega)
    · rintro _ rfl
      rw [big_neg, decide_eq_true_eq] at q
      rw [big_val, big_val]
      exact ok_some (sign_of (fun q => by omega) (fun q => by omega) fun q => by omega)
end
end Go.Proofs.Ytfkncjfpgflafaa.X
