/- stream.Decode of bytes that begin as a stream does. Plain. -/
import Derived.Test.YtnooiajahmichaaSI
namespace Go.Proofs.Ytnooiajahmichaa.X
open Go Go.RowKit
set_option linter.unusedVariables false
theorem rget {x : List Int} (hx : Bytes x) (hl : x.length ≤ 100000) {p : Int} {pn : Nat} (hp : p = pn) {m : Int} {mn : Nat} (hm : m = mn) {ov : Bool} (h1 : pn ≤ 1000000) (h2 : mn ≤ 32) : Ok (P_stream_reader_bits (T_stream_reader.mk x p ov) m) (fun r => r.1 = rdB x pn mn ∧ r.2.1 = (pn + mn : Nat)) := by
  subst hp hm
  exact rbits_ok hx (by omega) h2 (by omega)
theorem rtile_loop {x : List Int} (hx : Bytes x) (hl : x.length ≤ 100000) {T : Nat} (hT : T ≤ 100) {body : (Int × Int × Bool × List Int) → Option ((Int × Int × Bool × List Int) ⊕ (Int × Bool × List Int))}
    (hb : ∀ y p o xs, body (y, p, o, xs) = (if y < (T : Int) then bd (P_stream_reader_bits (T_stream_reader.mk x p o) 3) fun r => X.lv (xs ++ [r.1]) fun z => ck (apOk 8 z.length) <| ar (y + 1) fun y2 => some (Sum.inl (y2, r.2.1, r.2.2, z)) else some (Sum.inr (p, o, xs))))
    {p : Int} {pn : Nat} (hp : p = pn) (h1 : pn ≤ 100000) {ov : Bool} : Ok (lp body fuel (0, p, ov, [])) (fun r => r.1 = (pn + 3 * T : Nat)) := by
  subst hp
  refine ok_lp (fun s => ∃ y : Nat, s.1 = y ∧ y ≤ T ∧ s.2.1 = (pn + 3 * y : Nat) ∧ s.2.2.2.length = y) (fun s => ((T : Int) - s.1).toNat) ⟨0, rfl, by omega, rfl, rfl⟩ (by simp only; omega) ?_
  rintro ⟨_, _, o, xs⟩ ⟨y, rfl, y1, rfl, y2⟩
  simp only at y2
  rw [hb]
  refine ok_ite (fun hlt => ok_bd (rget hx hl rfl (mn := 3) rfl (by omega) (by omega)) ?_) fun hge => ok_some (by simp only; omega)
  rintro ⟨v, q, o2⟩ ⟨_, rfl⟩
  refine ok_lv (ok_ck ?_ (ok_ar (by omega) (ok_some ⟨⟨y + 1, by simp only; omega, by omega, by simp only; omega, by simp only [List.length_append, List.length_singleton]; omega⟩, by simp only; omega⟩)))
  simp only [List.length_append, List.length_singleton]; omega
theorem rtile_ok {x : List Int} (hx : Bytes x) (hl : x.length ≤ 100000) {T : Nat} (hT : T = 2 ∨ T = 3) {p : Int} {pn : Nat} (hp : p = pn) (h1 : pn ≤ 10000) {ov : Bool} : Ok (P_stream_reader_tile (T_stream_reader.mk x p ov) T) (fun r => r.2.1 = (pn + (33 + 12 * T) : Nat)) := by
  have hsz : (1 : Int) + 4 * (T : Int) = 9 ∨ (1 : Int) + 4 * (T : Int) = 13 := by omega
  unfold P_stream_reader_tile
  refine ok_bd (rget hx hl hp (mn := 16) rfl (by omega) (by omega)) ?_
  rintro ⟨v1, q1, o1⟩ ⟨_, rfl⟩
  refine ok_lv (ok_bd (rget hx hl rfl (mn := 1) rfl (by omega) (by omega)) ?_)
  rintro ⟨v2, q2, o2⟩ ⟨_, rfl⟩
  refine ok_ar (by omega) (ok_ar (by omega) (ok_bd (size_ok hsz) ?_))
  rintro _ rfl
  refine ok_bd (rget hx hl rfl (mn := 4) rfl (by omega) (by omega)) ?_
  rintro ⟨v3, q3, o3⟩ ⟨_, rfl⟩
  refine ok_ar (by omega) (ok_ar (by omega) (ok_bd (size_ok hsz) ?_))
  rintro _ rfl
  refine ok_bd (rget hx hl rfl (mn := 4) rfl (by omega) (by omega)) ?_
  rintro ⟨v4, q4, o4⟩ ⟨_, rfl⟩
  refine ok_ar (by omega) (ok_ar (by omega) (ok_bd (size_ok hsz) ?_))
  rintro _ rfl
  refine ok_bd (rget hx hl rfl (mn := 4) rfl (by omega) (by omega)) ?_
  rintro ⟨v5, q5, o5⟩ ⟨_, rfl⟩
  refine ok_ar (by omega) (ok_ar (by omega) (ok_bd (size_ok hsz) ?_))
  rintro _ rfl
  refine ok_bd (rget hx hl rfl (mn := 4) rfl (by omega) (by omega)) ?_
  rintro ⟨v6, q6, o6⟩ ⟨_, rfl⟩
  refine ok_bd (rtile_loop hx hl (T := T) (by omega) (fun _ _ _ _ => rfl) rfl (by omega)) ?_
  rintro ⟨q7, o7, l7⟩ rfl
  refine ok_bd (rtile_loop hx hl (T := T) (by omega) (fun _ _ _ _ => rfl) rfl (by omega)) ?_
  rintro ⟨q8, o8, l8⟩ rfl
  refine ok_bd (rtile_loop hx hl (T := T) (by omega) (fun _ _ _ _ => rfl) rfl (by omega)) ?_
  rintro ⟨q9, o9, l9⟩ rfl
  refine ok_bd (rtile_loop hx hl (T := T) (by omega) (fun _ _ _ _ => rfl) rfl (by omega)) ?_
  rintro ⟨q10, o10, l10⟩ rfl
  exact ok_some (by simp only; omega)
theorem rpads_ok {x : List Int} (hx : Bytes x) (hl : x.length ≤ 100000) {p : Int} {pn : Nat} (hp : p = pn) (h1 : pn ≤ 10000) {ov : Bool} : Ok (P_stream_reader_pads (T_stream_reader.mk x p ov)) (fun r => r.2.1 = (pn + (8 + 13 * rdB x pn 8) : Nat)) := by
  unfold P_stream_reader_pads
  refine ok_bd (rget hx hl hp (mn := 8) rfl (by omega) (by omega)) ?_
  rintro ⟨v, q, o⟩ ⟨hv, rfl⟩
  simp only at hv
  subst hv
  have h256 := rdB_lt x pn 8
  have e256 : (2 : Nat) ^ 8 = 256 := by decide
  generalize rdB x pn 8 = n at *
  refine ok_bd (R := fun r => r.2.1 = (pn + 8 + 13 * n : Nat)) ?_ fun r hr => ok_some (by simp only; rw [hr]; omega)
  refine ok_lp (fun s => ∃ y : Nat, s.2.1 = y ∧ y ≤ n ∧ s.2.2.1 = (pn + 8 + 13 * y : Nat) ∧ s.1.length = y) (fun s => ((n : Int) - s.2.1).toNat) ⟨0, rfl, by omega, rfl, rfl⟩ (by simp only; omega) ?_
  rintro ⟨ps, _, _, o⟩ ⟨y, rfl, y1, rfl, y2⟩
  simp only at y2
  unfold P_stream_reader_pads_L3
  dsimp only
  refine ok_ite (fun hlt => ok_bd (rget hx hl rfl (mn := 4) rfl (by omega) (by omega)) ?_) fun hge => ok_some (by simp only; omega)
  rintro ⟨a1, b1, c1⟩ ⟨_, rfl⟩
  refine ok_bd (rget hx hl rfl (mn := 4) rfl (by omega) (by omega)) ?_
  rintro ⟨a2, b2, c2⟩ ⟨_, rfl⟩
  refine ok_bd (rget hx hl rfl (mn := 2) rfl (by omega) (by omega)) ?_
  rintro ⟨a3, b3, c3⟩ ⟨_, rfl⟩
  refine ok_bd (rget hx hl rfl (mn := 3) rfl (by omega) (by omega)) ?_
  rintro ⟨a4, b4, c4⟩ ⟨_, rfl⟩
  refine ok_lv (ok_ck ?_ (ok_ar (by omega) (ok_some ⟨⟨y + 1, by simp only; omega, by omega, by simp only; omega, by simp only [List.length_append, List.length_singleton]; omega⟩, by simp only; omega⟩)))
  simp only [List.length_append, List.length_singleton]; omega
/-- Where the reader of the pads ends, in bytes. -/
def endB (x : List Int) (o : Nat) : Nat := (8 * o + (8 + 13 * rdB x (8 * o) 8) + (8 + 13 * rdB x (8 * o + (8 + 13 * rdB x (8 * o) 8)) 8) + 7) / 8
/-- A part that fails: it is cut off, or its sum is wrong. -/
def Falls (E : Int → Prop) (x : List Int) (num : Int) (o e : Nat) : Prop := (x.length < e + 2 ∧ E 11) ∨ (e + 2 ≤ x.length ∧ ¬ PartAt x num o e ∧ E 12)
theorem Decode_ok {E : Int → Prop} {b x : List Int} {R C T nI nO g : Nat} (hb : Layout b R C T nI nO) (hR : 1 ≤ R ∧ R ≤ 3) (hC : 1 ≤ C ∧ C ≤ 3) (hT : T = 2 ∨ T = 3) (hx : Bytes x) (hl : x.length ≤ 10000) (hg : g ≤ x.length) (hgb : g ≤ b.length) (hag : ∀ i : Int, 0 ≤ i → i < g → gt x i = gt b i)
    (h0 : g < 8 → Falls E x 0 0 6)
    (h1 : ∀ y, y < C → 8 + y * (colB R T + 2) ≤ g → g < 8 + y * (colB R T + 2) + colB R T + 2 → Falls E x (1 + y) (8 + y * (colB R T + 2)) (8 + y * (colB R T + 2) + colB R T))
    (h2 : 8 + C * (colB R T + 2) ≤ g → Falls E x (1 + C) (8 + C * (colB R T + 2)) (endB x (8 + C * (colB R T + 2))) ∨
      (endB x (8 + C * (colB R T + 2)) + 2 < x.length ∧ E 4 ∧ ((∀ e, e ≠ 0 → E e) ∨ (PartAt x (1 + C) (8 + C * (colB R T + 2) : Nat) (endB x (8 + C * (colB R T + 2)) : Nat) ∧
        ∀ q, 8 * (8 + C * (colB R T + 2)) + (8 + 13 * rdB x (8 * (8 + C * (colB R T + 2))) 8) + (8 + 13 * rdB x (8 * (8 + C * (colB R T + 2)) + (8 + 13 * rdB x (8 * (8 + C * (colB R T + 2))) 8)) 8) ≤ q → q < 8 * endB x (8 + C * (colB R T + 2)) → bitN x q = 0)))) :
    Ok (P_stream_Decode x) (fun r => E r.2) := by
  have hdl : 5 ≤ colB R T ∧ colB R T ≤ 26 := by
    unfold colB
    rcases (by omega : R = 1 ∨ R = 2 ∨ R = 3) with e | e | e <;> rcases hT with e2 | e2 <;> subst e e2 <;> omega
  have hsame : Same b x (8 * g) := fun p hp => by
    unfold bitN; rw [hag _ (by omega) (by omega)]
  have hlen := hb.len
  unfold P_stream_Decode
  refine ok_f (by omega) (ok_bd (rget hx (by omega) (pn := 0) rfl (mn := 16) rfl (by omega) (by omega)) ?_)
  rintro ⟨v1, q1, o1⟩ ⟨e1, rfl⟩
  refine ok_bd (rget hx (by omega) rfl (mn := 8) rfl (by omega) (by omega)) ?_
  rintro ⟨v2, q2, o2⟩ ⟨e2, rfl⟩
  refine ok_bd (rget hx (by omega) rfl (mn := 8) rfl (by omega) (by omega)) ?_
  rintro ⟨v3, q3, o3⟩ ⟨e3, rfl⟩
  refine ok_bd (rget hx (by omega) rfl (mn := 8) rfl (by omega) (by omega)) ?_
  rintro ⟨v4, q4, o4⟩ ⟨e4, rfl⟩
  refine ok_bd (rget hx (by omega) rfl (mn := 8) rfl (by omega) (by omega)) ?_
  rintro ⟨v5, q5, o5⟩ ⟨e5, rfl⟩
  simp only at e1 e2 e3 e4 e5
  refine ok_bd (part_ok hx (by omega) (p := 48) (o := 0) (num := 0) (by omega) (by omega) (by omega)) ?_
  rintro ⟨pe, pa⟩ ⟨k1, k2, k3, k4⟩
  simp only at k1 k2 k3 k4
  by_cases hg8 : g < 8
  · have hpe : E pe ∧ pe ≠ 0 := by
      rcases h0 hg8 with ⟨a, b⟩ | ⟨a, b, c⟩
      · rw [k1 a]; exact ⟨b, by decide⟩
      · rw [k2 a b]; exact ⟨c, by decide⟩
    exact ok_t hpe.2 (ok_some hpe.1)
  have hp0 : pe = 0 := by
    refine k4 (by omega) ?_ fun q a b => by omega
    exact hb.head.part.same (by omega) (by omega) (by omega) (by omega) fun i i0 i1 => hag i i0 (by omega)
  subst hp0
  have kp := k3 rfl
  have m1 : v1 = 19799 := by rw [e1, rdB_same hsame (by omega), hb.head.magic]; rfl
  have m2 : v2 = 1 := by rw [e2, rdB_same hsame (by omega)]; rw [show (0 + 16 : Nat) = 16 from rfl, hb.head.version]; rfl
  have m3 : v3 = R := by rw [e3, rdB_same hsame (by omega)]; rw [show (0 + 16 + 8 : Nat) = 24 from rfl, hb.head.rows]
  have m4 : v4 = C := by rw [e4, rdB_same hsame (by omega)]; rw [show (0 + 16 + 8 + 8 : Nat) = 32 from rfl, hb.head.cols]
  have m5 : v5 = T := by rw [e5, rdB_same hsame (by omega)]; rw [show (0 + 16 + 8 + 8 + 8 : Nat) = 40 from rfl, hb.head.tracks]
  subst m1 m2 m3 m4 m5
  clear e1 e2 e3 e4 e5 k1 k2 k3 k4
  refine ok_f (by simp) (ok_lv (ok_f (by simp) (ok_lv' fun x51 e51 => ok_lv' fun x58 e58 => ok_lv (ok_lv (ok_lv (ok_f ?_ ?_))))))
  · simp only at e51 e58
    simp only [Bool.or_eq_true, decide_eq_true_eq]; omega
  have hm0 : 0 ≤ (R : Int) * C := Int.mul_nonneg (by omega) (by omega)
  have hm1 : (R : Int) * C ≤ 3 * 3 := Int.mul_le_mul (by omega) (by omega) (by omega) (by omega)
  dsimp only
  refine ok_ar (by omega) (ok_ck ⟨by omega, by omega⟩ (ok_lv' fun z ez => ?_))
  have hzl : (z.length : Int) = R * C := by rw [ez]; simp; omega
  refine ok_bs (R := fun o => match o with | .inl s => 8 + C * (colB R T + 2) ≤ g ∧ s.1 = (8 * (8 + C * (colB R T + 2)) : Nat) | .inr r => E r.2) ?_ ?_ fun r hr => ok_some hr
  · refine ok_lp (fun s => ∃ y : Nat, s.1 = y ∧ y ≤ C ∧ 8 + y * (colB R T + 2) ≤ g ∧ s.2.1 = (8 * (8 + y * (colB R T + 2)) : Nat) ∧ s.2.2.2.length = z.length) (fun s => ((C : Int) - s.1).toNat) ⟨0, rfl, by omega, by omega, by simp only; rw [kp]; simp, rfl⟩ (by simp only; omega) ?_
    rintro ⟨_, _, ov, ts⟩ ⟨y, rfl, y1, y2, rfl, y3⟩
    simp only at y3
    unfold P_stream_Decode_L15
    dsimp only
    have hyb : y * (colB R T + 2) ≤ 3 * 28 := Nat.mul_le_mul (by omega) (by omega)
    generalize hoy : 8 + y * (colB R T + 2) = oy at *
    refine ok_ite (fun hlt => ?_) fun hge => ok_some (by rw [show C = y by omega, hoy]; exact ⟨y2, rfl⟩)
    have hd : Int.tdiv ((8 * oy : Nat) : Int) 8 = oy := by rw [Int.tdiv_eq_ediv_of_nonneg (by omega)]; omega
    rw [hd]
    refine ok_ck (by omega) (ok_ar (by omega) (ok_bd (R := fun s => s.1 = (8 * oy + R * (33 + 12 * T) : Nat) ∧ s.2.2.length = z.length) ?_ ?_))
    · refine ok_lp (fun s => ∃ r : Nat, s.1 = r ∧ r ≤ R ∧ s.2.1 = (8 * oy + r * (33 + 12 * T) : Nat) ∧ s.2.2.2.length = z.length) (fun s => ((R : Int) - s.1).toNat) ⟨0, rfl, by omega, by simp, y3⟩ (by simp only; omega) ?_
      rintro ⟨_, _, ov2, ts2⟩ ⟨r, rfl, r1, rfl, r3⟩
      simp only at r3
      unfold P_stream_Decode_L19
      dsimp only
      have hz0 : 0 ≤ (r : Int) * C := Int.mul_nonneg (by omega) (by omega)
      have hz1 : (r : Int) * C ≤ 3 * 3 := Int.mul_le_mul (by omega) (by omega) (by omega) (by omega)
      have hrb : r * (33 + 12 * T) ≤ 3 * 69 := Nat.mul_le_mul (by omega) (by omega)
      refine ok_ite (fun hlt2 => ?_) fun hge => ok_some (by rw [show R = r by omega]; exact ⟨rfl, r3⟩)
      have hidx : (r : Int) * C + y < ts2.length := by
        have : ((r : Int) + 1) * C ≤ R * C := Int.mul_le_mul_of_nonneg_right (by omega) (by omega)
        rw [Int.add_mul, Int.one_mul] at this
        rw [r3, hzl]; omega
      refine ok_ar (by omega) (ok_ar (by omega) (ok_bd (rtile_ok hx (by omega) hT rfl (by omega)) ?_))
      rintro ⟨t, q, ov3⟩ rfl
      refine ok_ck ⟨by omega, hidx⟩ (ok_lv (ok_ar (by omega) (ok_some ⟨⟨r + 1, by simp only; omega, by omega, by simp only; rw [Nat.add_mul, Nat.one_mul]; omega, by simp only; rw [stt_length, r3]⟩, by simp only; omega⟩)))
    rintro ⟨q, ov2, ts2⟩ ⟨rfl, t3⟩
    simp only at t3
    have hend : (8 * oy + R * (33 + 12 * T) + 7) / 8 = oy + colB R T := by unfold colB; omega
    have hRb : R * (33 + 12 * T) ≤ 3 * 69 := Nat.mul_le_mul (by omega) (by omega)
    refine ok_ar (by omega) (ok_bd (part_ok hx (by omega) (p := 8 * oy + R * (33 + 12 * T)) (o := oy) (num := 1 + y) (by omega) (by omega) (by omega)) ?_)
    rintro ⟨pe, pa⟩ ⟨k1, k2, k3, k4⟩
    simp only at k1 k2 k3 k4
    rw [hend] at k1 k2 k3 k4
    by_cases hgy : g < oy + colB R T + 2
    · have hpe : E pe ∧ pe ≠ 0 := by
        have hf := h1 y (by omega) (by rw [hoy]; exact y2) (by rw [hoy]; exact hgy)
        rw [hoy] at hf
        rcases hf with ⟨a, b⟩ | ⟨a, b, c⟩
        · rw [k1 a]; exact ⟨b, by decide⟩
        · rw [k2 a b]; exact ⟨c, by decide⟩
      exact ok_t hpe.2 (ok_some hpe.1)
    have hcol := hb.col y (by omega)
    rw [hoy] at hcol
    have hp0 : pe = 0 := by
      refine k4 (by omega) (hcol.part.same (by omega) (by omega) (by omega) (by omega) fun i i0 i1 => hag i (by omega) (by omega)) fun q a b => ?_
      rw [hsame q (by omega)]
      exact hcol.zero q a b
    subst hp0
    have kp := k3 rfl
    refine ok_f (by simp) (ok_ar (by omega) (ok_some ⟨⟨y + 1, by simp only; omega, by omega, ?_, ?_, t3⟩, by simp only; omega⟩))
    · rw [Nat.add_mul, Nat.one_mul]; omega
    · simp only; rw [kp, Nat.add_mul, Nat.one_mul]; omega
  rintro ⟨q, ov, ts⟩ ⟨hgC, rfl⟩
  dsimp only
  have h2 := h2 hgC
  have hCb : C * (colB R T + 2) ≤ 3 * 28 := Nat.mul_le_mul (by omega) (by omega)
  unfold endB at h2
  generalize hoC : 8 + C * (colB R T + 2) = oC at *
  have hd : Int.tdiv ((8 * oC : Nat) : Int) 8 = oC := by rw [Int.tdiv_eq_ediv_of_nonneg (by omega)]; omega
  rw [hd]
  have e256 : (2 : Nat) ^ 8 = 256 := by decide
  have ha := rdB_lt x (8 * oC) 8
  refine ok_ck (by omega) (ok_ar (by omega) (ok_bd (rpads_ok hx (by omega) rfl (by omega)) ?_))
  rintro ⟨ps, q2, ov2⟩ rfl
  generalize rdB x (8 * oC) 8 = a at *
  have ha2 := rdB_lt x (8 * oC + (8 + 13 * a)) 8
  refine ok_bd (rpads_ok hx (by omega) rfl (by omega)) ?_
  rintro ⟨ps2, q3, ov3⟩ rfl
  generalize rdB x (8 * oC + (8 + 13 * a)) 8 = a2 at *
  dsimp only
  refine ok_ar (by omega) (ok_bd (part_ok hx (by omega) (p := 8 * oC + (8 + 13 * a) + (8 + 13 * a2)) (o := oC) (num := 1 + C) (by omega) (by omega) (by omega)) ?_)
  generalize (8 * oC + (8 + 13 * a) + (8 + 13 * a2) + 7) / 8 = e at *
  rintro ⟨pe, pa⟩ ⟨k1, k2, k3, k4⟩
  simp only at k1 k2 k3 k4
  rcases h2 with hf | ⟨f1, f2, f3⟩
  · have hpe : E pe ∧ pe ≠ 0 := by
      rcases hf with ⟨a, b⟩ | ⟨a, b, c⟩
      · rw [k1 a]; exact ⟨b, by decide⟩
      · rw [k2 a b]; exact ⟨c, by decide⟩
    exact ok_t hpe.2 (ok_some hpe.1)
  · refine ok_ite (fun hne => ok_some ?_) fun h0 => ?_
    · rcases f3 with f3 | ⟨f3, f4⟩
      · exact f3 pe hne
      · exact absurd (k4 (by omega) f3 f4) hne
    · have h00 : pe = 0 := by simpa using h0
      have kp := k3 h00
      refine ok_ar (by omega) (ok_t ?_ (ok_some f2))
      simp only; rw [kp]; omega
end Go.Proofs.Ytnooiajahmichaa.X
