/- Long numbers in decimal: Text and Read. Plain. -/
import Derived.Test.YtkenpbnpemjbhaaBF
namespace Go.Proofs.Ytkenpbnpemjbhaa.X
open Go Go.RowKit
set_option linter.unusedVariables false
set_option linter.unusedSimpArgs false
set_option linter.unusedSectionVars false
theorem ba_ext {x y : ByteArray} (h : x.data.toList = y.data.toList) : x = y := ByteArray.ext (Array.toList_inj.1 h)
theorem strOf_data (xs : List Int) : (strOf xs).data.toList = xs.map (fun n => UInt8.ofNat n.toNat) := by
  have key : ∀ (xs : List Int) (b : ByteArray), (xs.foldl (fun r n => r.push (UInt8.ofNat n.toNat)) b).data.toList = b.data.toList ++ xs.map (fun n => UInt8.ofNat n.toNat) := by
    intro xs
    induction xs with
    | nil => intro b; simp
    | cons x xs ih => intro b; rw [List.foldl_cons, ih]; simp [ByteArray.push]
  exact key xs ByteArray.empty
theorem strOf_app (xs ys : List Int) : strOf (xs ++ ys) = strOf xs ++ strOf ys := ba_ext (by
  rw [strOf_data, ByteArray.data_append, Array.toList_append, strOf_data, strOf_data, List.map_append])
theorem strOf_size (xs : List Int) : (strOf xs).size = xs.length := by
  rw [Go.Lib.size_eq, strOf_data, List.length_map]
theorem byteAt_strOf {xs : List Int} {i : Int} (h : inb i xs.length) (hx : 0 ≤ gt xs i ∧ gt xs i < 256) : byteAt (strOf xs) i = gt xs i := by
  obtain ⟨k, rfl⟩ := Int.eq_ofNat_of_zero_le h.1
  have hk : k < xs.length := by have := h.2; omega
  have e : (strOf xs).data.toList[k]? = some (UInt8.ofNat (gt xs (k : Int)).toNat) := by
    rw [strOf_data, List.getElem?_map, List.getElem?_eq_getElem hk]
    simp [gt, List.getD_eq_getElem?_getD, hk]
  unfold byteAt
  rw [Array.getD_eq_getD_getElem?, Int.toNat_natCast, ← Array.getElem?_toList, e]
  simp only [Option.getD_some, UInt8.toNat_ofNat']
  omega
/-! ### Decimal digits -/
def Dec (ds : List Int) : Prop := ∀ x ∈ ds, 0 ≤ x ∧ x ≤ 9
def dval (ds : List Int) : Int := ds.foldl (fun a x => 10 * a + x) 0
def dstr (ds : List Int) : ByteArray := strOf (ds.map (48 + ·))
theorem dval_from (ys : List Int) : ∀ a : Int, ys.foldl (fun a x => 10 * a + x) a = a * 10 ^ ys.length + dval ys := by
  unfold dval
  induction ys with
  | nil => intro a; simp
  | cons y ys ih =>
    intro a
    rw [List.foldl_cons, List.foldl_cons, ih, ih (10 * 0 + y), List.length_cons, Int.pow_succ]
    grind
theorem dval_app (xs ys : List Int) : dval (xs ++ ys) = dval xs * 10 ^ ys.length + dval ys := by
  unfold dval
  rw [List.foldl_append]
  exact dval_from ys _
theorem dval_one (x : Int) : dval [x] = x := by simp [dval]
theorem dval_zeros (n : Nat) : dval (List.replicate n 0) = 0 := by
  induction n with
  | zero => rfl
  | succ n ih => rw [List.replicate_succ', dval_app, ih, dval_one]; simp
theorem dval_bound {ds : List Int} (h : Dec ds) : 0 ≤ dval ds ∧ dval ds < 10 ^ ds.length := by
  have key : ∀ n : Nat, n ≤ ds.length → 0 ≤ dval (ds.take n) ∧ dval (ds.take n) < 10 ^ n := by
    intro n
    induction n with
    | zero => intro _; exact ⟨by simp [dval], by simp [dval]⟩
    | succ n ih =>
      intro hn
      obtain ⟨a, b⟩ := ih (by omega)
      have hx := h ds[n] (List.getElem_mem (by omega))
      rw [List.take_succ_eq_append_getElem (by omega), dval_app, dval_one, Int.pow_succ]
      have e : (10 : Int) ^ [ds[n]].length = 10 := by simp
      rw [e]
      omega
  have := key ds.length (Nat.le_refl _)
  rwa [List.take_length] at this
theorem dstr_app (xs ys : List Int) : dstr (xs ++ ys) = dstr xs ++ dstr ys := by unfold dstr; rw [List.map_append, strOf_app]
theorem dstr_size (xs : List Int) : (dstr xs).size = xs.length := by unfold dstr; rw [strOf_size, List.length_map]
theorem Dec.app {xs ys : List Int} (h : Dec xs) (k : Dec ys) : Dec (xs ++ ys) := by
  intro x hx
  rcases List.mem_append.1 hx with q | q
  · exact h x q
  · exact k x q
theorem Dec.get {ds : List Int} (h : Dec ds) {i : Int} (hi : inb i ds.length) : 0 ≤ gt ds i ∧ gt ds i ≤ 9 := h _ (gt_mem hi)
theorem dstr_byte {ds : List Int} (h : Dec ds) {i : Int} (hi : inb i ds.length) : byteAt (dstr ds) i = 48 + gt ds i := by
  have hg := h.get hi
  have e : gt (ds.map (48 + ·)) i = 48 + gt ds i := by
    obtain ⟨k, rfl⟩ := Int.eq_ofNat_of_zero_le hi.1
    have hk : k < ds.length := by have := hi.2; omega
    simp [gt, List.getD_eq_getElem?_getD, hk]
  unfold dstr
  rw [byteAt_strOf (by rw [List.length_map]; exact hi) (by rw [e]; omega), e]
theorem digits_rc : ∀ (m k : Nat) (n : Int), m < k → m ≤ 9 → 0 ≤ n → n < 10 ^ (m + 1) → n < 4294967296 →
    Ok (rcf P_exact_digits_B k n) (fun r => ∃ ds, r = dstr ds ∧ Dec ds ∧ dval ds = n ∧ ds ≠ [] ∧ ds.length ≤ m + 1 ∧ (1 ≤ n → gt ds 0 ≠ 0)) := by
  have small : ∀ (k : Nat) (n : Int), 0 ≤ n → n < 10 → Ok (P_exact_digits_B (rcf P_exact_digits_B k) n) (fun r => ∃ ds, r = dstr ds ∧ Dec ds ∧ dval ds = n ∧ ds ≠ [] ∧ ds.length ≤ 1 ∧ (1 ≤ n → gt ds 0 ≠ 0)) := by
    intro k n h0 h1
    unfold P_exact_digits_B
    refine ok_t h1 (ok_lv (ok_lv (ok_lv (ok_some ⟨[n], ?_, ?_, dval_one n, by simp, by simp, fun h => ?_⟩))))
    · rw [show (48 + n) % 4294967296 % 256 = 48 + n by omega]; rfl
    · intro x hx; rw [List.mem_singleton.1 hx]; omega
    · show n ≠ 0; omega
  intro m
  induction m with
  | zero =>
    intro k n hk _ h0 h1 _
    obtain ⟨k, rfl⟩ : ∃ j, k = j + 1 := ⟨k - 1, by omega⟩
    exact (small k n h0 (by simpa using h1)).mono fun r ⟨ds, a, b, c, d, e, f⟩ => ⟨ds, a, b, c, d, by omega, f⟩
  | succ m ih =>
    intro k n hk hm h0 h1 h2
    obtain ⟨k, rfl⟩ : ∃ j, k = j + 1 := ⟨k - 1, by omega⟩
    by_cases hn : n < 10
    · exact (small k n h0 hn).mono fun r ⟨ds, a, b, c, d, e, f⟩ => ⟨ds, a, b, c, d, by omega, f⟩
    · show Ok (P_exact_digits_B (rcf P_exact_digits_B k) n) _
      unfold P_exact_digits_B
      refine ok_f hn (ok_ck (by omega) (ok_lv ?_))
      rw [Int.tdiv_eq_ediv_of_nonneg h0, show n / 10 % 4294967296 = n / 10 by omega]
      rw [Int.pow_succ] at h1
      refine ok_bd (ih k (n / 10) (by omega) (by omega) (by omega) (by omega) (by omega)) ?_
      rintro _ ⟨ds, rfl, hd, hv, hne, hl, hh⟩
      refine ok_ck (by omega) (ok_lv ?_)
      rw [Int.tmod_eq_emod_of_nonneg h0]
      refine ok_lv (ok_lv (ok_lv ?_))
      rw [show (48 + n % 10) % 4294967296 % 256 = 48 + n % 10 by omega]
      have hpos : 0 < ds.length := List.length_pos_iff.2 hne
      refine ok_ck (by rw [dstr_size, strOf_size]; simp only [List.length_singleton]; omega) (ok_some ⟨ds ++ [n % 10], ?_, ?_, ?_, by simp, by simp only [List.length_append, List.length_singleton]; omega, fun _ => ?_⟩)
      · rw [dstr_app]; rfl
      · refine hd.app fun x hx => ?_
        rw [List.mem_singleton.1 hx]; omega
      · rw [dval_app, hv, dval_one]
        simp only [List.length_singleton, Int.pow_one]
        omega
      · rw [gt_app_l (by show (0 : Nat) < _; exact hpos)]
        exact hh (by omega)
theorem digits_ok {n : Int} (h0 : 0 ≤ n) (h1 : n < 1000000000) : Ok (P_exact_digits n) (fun r => ∃ ds, r = dstr ds ∧ Dec ds ∧ dval ds = n ∧ ds ≠ [] ∧ ds.length ≤ 9 ∧ (1 ≤ n → gt ds 0 ≠ 0)) := by
  unfold P_exact_digits
  exact digits_rc 8 fuel n (by unfold fuel; omega) (by omega) h0 (by simpa using h1) (by omega)
/-! ### Text -/
/-- The value of the k highest of n parts. -/
def tvk (f : Nat → Int) (n : Nat) : Nat → Int
  | 0 => 0
  | k + 1 => tvk f n k * 1000000000 + f (n - 1 - k)
theorem tvk_sum (f : Nat → Int) (n : Nat) : ∀ k, k ≤ n → tvk f n k * 1000000000 ^ (n - k) + sm (n - k) (fun j => f j * 1000000000 ^ j) = sm n (fun j => f j * 1000000000 ^ j) := by
  intro k
  induction k with
  | zero => intro _; simp [tvk]
  | succ k ih =>
    intro hk
    rw [← ih (by omega)]
    obtain ⟨m, hm⟩ : ∃ m, n - k = m + 1 := ⟨n - k - 1, by omega⟩
    rw [hm, show n - (k + 1) = m by omega, tvk, show n - 1 - k = m by omega, sm, Int.pow_succ]
    grind
theorem tvk_all (f : Nat → Int) (n : Nat) : tvk f n n = sm n (fun j => f j * 1000000000 ^ j) := by
  have := tvk_sum f n n (Nat.le_refl n)
  rw [Nat.sub_self, Int.pow_zero, Int.mul_one] at this
  rw [← this]; simp [sm]
def zeros9 : ByteArray := dstr (List.replicate 9 0)
theorem zeros9_eq : ks_4c930086 = zeros9 := by decide +kernel
theorem sub_zeros {k : Int} (h0 : 0 ≤ k) (h1 : k ≤ 9) : subS zeros9 0 k = dstr (List.replicate k.toNat 0) := by
  obtain ⟨n, rfl⟩ := Int.eq_ofNat_of_zero_le h0
  have : ∀ n : Nat, n < 10 → subS zeros9 0 (n : Int) = dstr (List.replicate n 0) := by decide +kernel
  exact this n (by omega)
structure Spelt (v : Int) (s : ByteArray) (k : Nat) : Prop where
  ex : ∃ ds, s = (if v < 0 then (⟨#[45]⟩ : ByteArray) else ⟨#[]⟩) ++ dstr ds ∧ Dec ds ∧ dval ds = (v.natAbs : Int) ∧ 1 ≤ ds.length ∧ ds.length ≤ k ∧ (v = 0 → ds = [0]) ∧ (v ≠ 0 → gt ds 0 ≠ 0)
theorem empty_app (s : ByteArray) : (⟨#[]⟩ : ByteArray) ++ s = s := ba_ext (by simp [ByteArray.data_append])
theorem app_empty (s : ByteArray) : s ++ (⟨#[]⟩ : ByteArray) = s := ba_ext (by simp [ByteArray.data_append])
theorem Text_ok {v : Int} {L : Nat} (hL : dlen v ≤ L) (hL2 : L ≤ 500) : Ok (P_exact_Text (big v)) (fun r => Spelt v r 10000) := by
  unfold P_exact_Text
  refine ok_bd Sign_ok ?_
  rintro _ rfl
  refine ok_ite (fun h => ok_some ?_) fun h => ?_
  · have h0 : v = 0 := Int.sign_eq_zero_iff_zero.1 h
    subst h0
    refine ⟨⟨[0], ?_, fun x hx => by rw [List.mem_singleton.1 hx]; omega, rfl, by simp, by simp, fun _ => rfl, fun q => absurd rfl q⟩⟩
    decide
  have h0 : v ≠ 0 := fun e => h (by rw [e]; rfl)
  have hvL : v.natAbs < 2 ^ (32 * L) := by
    have h1 := dlen_lt v
    have h2 := Nat.pow_le_pow_right (n := 4294967296) (by decide) hL
    have h3 : (4294967296 : Nat) ^ L = 2 ^ (32 * L) := by rw [Nat.pow_mul]
    omega
  refine ok_bd (R := fun ps => ps ≠ [] ∧ ps.length ≤ 600 ∧ (∀ i : Int, inb i ps.length → 0 ≤ gt ps i ∧ gt ps i < 1000000000) ∧ gt ps ((ps.length : Int) - 1) ≠ 0 ∧ sm ps.length (fun j => gt ps (j : Int) * 1000000000 ^ j) = (v.natAbs : Int)) ?_ ?_
  · refine ok_lp (fun s => ∃ m : Nat, s.2 = digs m ∧ (∀ i : Int, inb i s.1.length → 0 ≤ gt s.1 i ∧ gt s.1 i < 1000000000) ∧ (m : Int) * 1000000000 ^ s.1.length + sm s.1.length (fun j => gt s.1 (j : Int) * 1000000000 ^ j) = (v.natAbs : Int) ∧ (m = 0 → s.1 ≠ [] ∧ gt s.1 ((s.1.length : Int) - 1) ≠ 0) ∧ s.1.length ≤ 600)
      (fun s => if val s.2 = 0 then 0 else (val s.2).toNat.log2 + 1) ⟨v.natAbs, rfl, fun i hi => by obtain ⟨a, b⟩ := hi; simp only [List.length_nil] at b; omega, by simp [sm], fun q => by omega, by simp⟩ ?_ ?_
    · simp only
      rw [big_val]
      have h4 : (v.natAbs).log2 < 32 * L := (Nat.log2_lt (by omega)).2 hvL
      split
      · omega
      · rw [Int.toNat_natCast]; omega
    rintro ⟨ps, mg⟩ ⟨m, rfl, hp, hv, hz, hl⟩
    simp only at hp hv hz hl ⊢
    obtain ⟨dd, dn, dv⟩ := digs_ok m
    have psum : ∀ n, n ≤ ps.length → 0 ≤ sm n (fun j => gt ps (j : Int) * 1000000000 ^ j) := by
      intro n hn
      induction n with
      | zero => exact Int.le_refl _
      | succ n ih =>
        have h1 := ih (by omega)
        have h2 := Int.mul_nonneg (hp (n : Int) ⟨by omega, by omega⟩).1 (Int.le_of_lt (Int.pow_pos (m := n) (show (0 : Int) < 1000000000 by decide)))
        rw [sm]; omega
    unfold P_exact_Text_L5
    dsimp only
    refine ok_ite (fun hlt => ?_) fun hge => ok_some ?_
    · have hm0 : m ≠ 0 := by
        intro e; subst e
        rw [digs_zero] at hlt; simp at hlt
      have hlen : ps.length < 600 := by
        have h1 := psum ps.length (Nat.le_refl _)
        have h2 : (1000000000 : Int) ^ ps.length ≤ (m : Int) * 1000000000 ^ ps.length := by
          have := Int.mul_le_mul_of_nonneg_right (show (1 : Int) ≤ (m : Int) by omega) (Int.le_of_lt (Int.pow_pos (m := ps.length) (show (0 : Int) < 1000000000 by decide)))
          omega
        have h3 : ((1000000000 ^ ps.length : Nat) : Int) ≤ (v.natAbs : Int) := by
          have h31 : ((1000000000 ^ ps.length : Nat) : Int) = (1000000000 : Int) ^ ps.length := by simp
          rw [h31]; omega
        have h4 : (536870912 : Nat) ^ ps.length ≤ 1000000000 ^ ps.length := Nat.pow_le_pow_left (by decide) _
        have h5 : (536870912 : Nat) ^ ps.length = 2 ^ (29 * ps.length) := by rw [Nat.pow_mul]
        have h6 : 2 ^ (29 * ps.length) < 2 ^ (32 * L) := by omega
        have := (Nat.pow_lt_pow_iff_right (a := 2) (by decide)).1 h6
        omega
      have hdl : (digs m).length ≤ 1000000 := by
        have h1 : (m : Int) ≤ (v.natAbs : Int) := by
          have h1 := psum ps.length (Nat.le_refl _)
          have := Int.mul_le_mul_of_nonneg_left (show (1 : Int) ≤ 1000000000 ^ ps.length from Int.add_one_le_of_lt (Int.pow_pos (by decide))) (show (0 : Int) ≤ (m : Int) by omega)
          omega
        have h2 := dlen_mono (u := (m : Int)) (v := v) (by omega)
        have h3 : dlen (m : Int) = (digs m).length := by unfold dlen; rw [Int.natAbs_natCast]
        omega
      refine ok_bd (divSmall_ok dd (d := 1000000000) (by decide) (by omega)) ?_
      rintro ⟨q, r⟩ ⟨dq, lq, e, r0, r1⟩
      simp only at dq lq e r0 r1
      dsimp only
      have q0 := (val_bound dq).1
      refine ok_lv (ok_ck (by simp only [apOk, List.length_append, List.length_singleton]; omega) (ok_bd (made_ok dq (by omega)) ?_))
      rintro _ rfl
      simp only [Bool.false_eq_true, if_false]
      have em : (m : Int) = 1000000000 * val q + r := by rw [← dv]; exact e
      refine ok_some ⟨⟨(val q).toNat, ?_, fun i hi => ?_, ?_, fun hq => ⟨by simp, ?_⟩, by simp only [List.length_append, List.length_singleton]; omega⟩, ?_⟩
      · simp only; rw [big_mag]; congr 1; omega
      · simp only at hi ⊢
        obtain ⟨i0, i1⟩ := hi
        simp only [List.length_append, List.length_singleton] at i1
        by_cases qe : i = (ps.length : Int)
        · rw [gt_app_1 qe]; exact ⟨r0, r1⟩
        · rw [gt_app_l (by omega)]; exact hp i ⟨i0, by omega⟩
      · simp only [List.length_append, List.length_singleton]
        rw [sm, gt_app_1 rfl, Int.pow_succ]
        have e3 : sm ps.length (fun j => gt (ps ++ [r]) (j : Int) * 1000000000 ^ j) = sm ps.length (fun j => gt ps (j : Int) * 1000000000 ^ j) := sm_congr fun j hj => by rw [gt_app_l (by omega)]
        rw [e3, ← hv, em, show (((val q).toNat : Nat) : Int) = val q by omega]
        grind
      · simp only
        rw [gt_app_1 (by simp only [List.length_append, List.length_singleton]; omega)]
        omega
      · simp only
        have hqm : (val q).toNat ≤ m / 2 := by omega
        have hmq : val (digs m) ≠ 0 := by rw [dv]; omega
        rw [if_neg hmq, dv, Int.toNat_natCast, big_val]
        split
        · omega
        · rename_i hne
          have hne2 : (val q).natAbs ≠ 0 := by omega
          rw [Int.toNat_natCast]
          have h9 : (val q).natAbs.log2 + 1 ≤ m.log2 := by
            rw [Nat.le_log2 hm0, Nat.pow_succ]
            have := (Nat.le_log2 hne2 (k := (val q).natAbs.log2)).1 (Nat.le_refl _)
            omega
          omega
    · have hm0 : m = 0 := digs_nil (List.length_eq_zero_iff.1 (by omega))
      subst hm0
      obtain ⟨a, b⟩ := hz rfl
      refine ⟨a, hl, hp, b, ?_⟩
      rw [← hv]; simp
  rintro ps ⟨hne, hl, hp, htop, hv⟩
  have hpos : 0 < ps.length := List.length_pos_iff.2 hne
  refine ok_bd (R := fun b => b = (if v < 0 then (⟨#[45]⟩ : ByteArray) else ⟨#[]⟩)) (ok_ite (fun hn => ok_ck (by omega) (ok_ck (by decide) (ok_lv (ok_some ?_)))) fun hn => ok_some ?_) ?_
  · rw [big_neg, decide_eq_true_eq] at hn
    rw [if_pos hn, empty_app]; decide
  · rw [big_neg, decide_eq_true_eq] at hn
    rw [if_neg hn]
  rintro sg hsg
  have hss : sg.size ≤ 1 := by
    rw [hsg]; split
    · decide
    · decide
  refine ok_ar (by omega) (ok_bd (R := fun r => Spelt v r 10000) ?_ ?_)
  · refine ok_lp (fun s => ∃ (k : Nat) (ds : List Int), s.2 = (ps.length : Int) - 1 - k ∧ k ≤ ps.length ∧ s.1 = sg ++ dstr ds ∧ Dec ds ∧ dval ds = tvk (fun j => gt ps (j : Int)) ps.length k ∧ ds.length ≤ 9 * k ∧ (1 ≤ k → 1 ≤ ds.length ∧ gt ds 0 ≠ 0) ∧ (k = 0 → ds = []))
      (fun s => (s.2 + 1).toNat) ⟨0, [], by simp, Nat.zero_le _, (app_empty sg).symm, fun x hx => by simp at hx, rfl, by simp, fun q => by omega, fun _ => rfl⟩ (by simp only; omega) ?_
    rintro ⟨b, i⟩ ⟨k, ds, rfl, hk, rfl, hd, hval, hlen, hh, h00⟩
    simp only at hval hlen hh h00 ⊢
    unfold P_exact_Text_L12
    dsimp only
    refine ok_ite (fun hge => ?_) fun hlt => ok_some ?_
    · have hi : inb ((ps.length : Int) - 1 - k) ps.length := ⟨hge, by omega⟩
      obtain ⟨p0, p1⟩ := hp _ hi
      refine ok_ck hi (ok_lv (ok_bd (digits_ok p0 p1) ?_))
      rintro _ ⟨es, rfl, he, hev, hene, hel, heh⟩
      have hel1 : 1 ≤ es.length := List.length_pos_iff.2 hene
      have hsd := dstr_size es
      have hsd2 := dstr_size ds
      have hsb : (sg ++ dstr ds).size ≤ 10000 := by rw [ByteArray.size_append]; omega
      refine ok_ar (by omega) (ok_bd (R := fun b => ∃ zs, b = sg ++ dstr (ds ++ zs) ∧ Dec zs ∧ dval zs = 0 ∧ (k = 0 → zs = []) ∧ (1 ≤ k → zs.length + es.length = 9)) (ok_ite (fun hlt2 => ?_) fun hge2 => ok_some ⟨[], by rw [List.append_nil], fun x hx => by simp at hx, rfl, fun _ => rfl, fun q => by omega⟩) ?_)
      · refine ok_ar (by omega) (ok_ck ⟨by omega, by omega, by rw [zeros9_eq]; show _ ≤ ((zeros9).size : Int); rw [show zeros9.size = 9 from dstr_size _]; omega⟩ (ok_lv ?_))
        rw [zeros9_eq, sub_zeros (by omega) (by omega)]
        have hz := dstr_size (List.replicate ((9 : Int) - ((dstr es).size : Int)).toNat 0)
        rw [List.length_replicate] at hz
        refine ok_ck (by omega) (ok_lv (ok_some ⟨List.replicate ((9 : Int) - ((dstr es).size : Int)).toNat 0, by rw [dstr_app, ByteArray.append_assoc], fun x hx => ?_, dval_zeros _, fun q => by omega, fun _ => by rw [List.length_replicate]; omega⟩))
        rw [List.eq_of_mem_replicate hx]; omega
      rintro _ ⟨zs, rfl, hz1, hz2, hz3, hz4⟩
      have hzl : zs.length ≤ 9 := by
        by_cases q : k = 0
        · rw [hz3 q]; simp
        · have := hz4 (by omega); omega
      have hs3 : (sg ++ dstr (ds ++ zs)).size ≤ 20000 := by
        rw [ByteArray.size_append, dstr_size, List.length_append]; omega
      refine ok_ck (by omega) (ok_lv (ok_ar (by omega) (ok_some ⟨⟨k + 1, ds ++ (zs ++ es), by simp only; omega, by omega, ?_, hd.app (hz1.app he), ?_, ?_, fun _ => ?_, fun q => by omega⟩, by simp only; omega⟩)))
      · simp only
        rw [ByteArray.append_assoc, ← dstr_app, List.append_assoc]
      · rw [dval_app, dval_app, hz2, hev, hval, tvk, show ((ps.length - 1 - k : Nat) : Int) = (ps.length : Int) - 1 - k by omega]
        by_cases q : k = 0
        · subst q
          simp [tvk]
        · have := hz4 (by omega)
          rw [List.length_append, this]
          simp
      · simp only [List.length_append]
        by_cases q : k = 0
        · rw [h00 q, hz3 q]; simp only [List.length_nil]; omega
        · have := hz4 (by omega); omega
      · by_cases q : k = 0
        · rw [h00 q, hz3 q, List.nil_append, List.nil_append]
          refine ⟨hel1, heh ?_⟩
          have : (ps.length : Int) - 1 - k = (ps.length : Int) - 1 := by omega
          rw [this] at p0 ⊢
          omega
        · obtain ⟨h1, h2⟩ := hh (by omega)
          refine ⟨by rw [List.length_append]; omega, ?_⟩
          rw [gt_app_l (by show (0 : Nat) < _; omega)]; exact h2
    · have hkk : k = ps.length := by omega
      subst hkk
      obtain ⟨h1, h2⟩ := hh hpos
      rw [tvk_all, hv] at hval
      exact ⟨⟨ds, by rw [hsg], hd, hval, h1, by omega, fun q => absurd q h0, fun _ => h2⟩⟩
  rintro r hr
  obtain ⟨ds, e, -, -, l1, -⟩ := hr.ex
  refine ok_ck ?_ (ok_some hr)
  rw [e, ByteArray.size_append, dstr_size]; omega
end Go.Proofs.Ytkenpbnpemjbhaa.X
