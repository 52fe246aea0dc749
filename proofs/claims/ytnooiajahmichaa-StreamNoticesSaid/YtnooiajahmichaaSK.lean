/- maskkeep4.StreamNotices answers true. Plain. -/
import Derived.Test.YtnooiajahmichaaSJ
namespace Go.Proofs.Ytnooiajahmichaa.X
open Go Go.RowKit
set_option linter.unusedVariables false
theorem streams_ok : Ok P_maskkeep4_streams (fun r => r = true) := ⟨true, by decide +kernel, rfl⟩
theorem clone8_ok {b : List Int} (h : b.length ≤ 1000000) : Ok (P_slices_Clone_byte_byte b) (fun r => r = b) := by
  unfold P_slices_Clone_byte_byte
  exact ok_lv (ok_ck (by simp only [apOk, List.nil_append]; omega) (ok_some (List.nil_append b)))
theorem xor_ne {a m : Nat} (hm : m ≠ 0) : (a ^^^ m) ≠ a := by
  intro h
  have h2 := congrArg (fun x => a ^^^ x) h
  simp only [← Nat.xor_assoc, Nat.xor_self, Nat.zero_xor] at h2
  exact hm h2
theorem bytes_stt {b : List Int} (hb : Bytes b) {k v : Int} (hv : 0 ≤ v ∧ v < 256) : Bytes (stt b k v) := fun x hx => by
  rcases List.mem_or_eq_of_mem_set hx with h | rfl
  · exact hb x h
  · exact hv
section
variable {b : List Int} {R C T nI nO : Nat} (hb : Layout b R C T nI nO) (hR : 1 ≤ R ∧ R ≤ 3) (hC : 1 ≤ C ∧ C ≤ 3) (hT : T = 2 ∨ T = 3) (hl : b.length ≤ 5000)
include hb hR hC hT hl
theorem changed_ok {k v : Int} (hk : 0 ≤ k ∧ k < b.length) (hv : 0 ≤ v ∧ v < 256) (hne : v ≠ gt b k) : Ok (P_stream_Decode (stt b k v)) (fun r => r.2 ≠ 0) := by
  have hlen := hb.len
  have hlx := stt_length b k v
  obtain ⟨g, rfl⟩ := Int.eq_ofNat_of_zero_le hk.1
  have hg : (g : Int).toNat = g := rfl
  refine Decode_ok (E := fun e => e ≠ 0) (g := g) hb hR hC hT (bytes_stt hb.head.bytes hv) (by omega) (by omega) (by omega) (fun i i0 i1 => ?_) (fun h => ?_) (fun y hy h h' => ?_) fun h => ?_
  · rw [gt_stt b v ⟨hk.1, hk.2⟩ i0, if_neg (by omega)]
  · refine .inr ⟨by omega, ?_, by decide⟩
    exact PartAt.notice hb.head.bytes hb.head.part (by omega) (by omega) (by omega) (by omega) (by omega) hv hne
  · have hm : (y + 1) * (colB R T + 2) ≤ C * (colB R T + 2) := Nat.mul_le_mul_right _ (by omega)
    rw [Nat.add_mul, Nat.one_mul] at hm
    refine .inr ⟨by omega, ?_, by decide⟩
    exact PartAt.notice hb.head.bytes (hb.col y hy).part (by omega) (by omega) (by omega) (by omega) (by omega) hv hne
  · generalize ho : 8 + C * (colB R T + 2) = o at *
    rcases Nat.lt_trichotomy (stt b g v).length (endB (stt b g v) o + 2) with e | e | e
    · exact .inl (.inl ⟨e, by decide⟩)
    · refine .inl (.inr ⟨by omega, ?_, by decide⟩)
      have he : endB (stt b g v) o = o + padB nI nO := by omega
      rw [he]
      have hp := hb.pad
      rw [ho] at hp
      exact PartAt.notice hb.head.bytes hp (by omega) (by omega) (by omega) (by omega) (by omega) hv hne
    · exact .inr ⟨e, by decide, .inl fun _ h => h⟩
theorem cut_ok {k : Int} (hk : 0 ≤ k ∧ k < b.length) : Ok (P_stream_Decode (X.sub b 0 k)) (fun r => r.2 = 11) := by
  have hlen := hb.len
  have hlx := sub_length b (a := 0) (b := k) (by omega) (by omega) (by omega)
  obtain ⟨g, rfl⟩ := Int.eq_ofNat_of_zero_le hk.1
  have hag : ∀ i : Int, 0 ≤ i → i < g → gt (X.sub b 0 (g : Int)) i = gt b i := fun i i0 i1 => by rw [gt_sub b (by omega) i0 (by omega), show (0 : Int) + i = i by omega]
  refine Decode_ok (E := fun e => e = 11) (g := g) hb hR hC hT (hb.head.bytes.sub _ _) (by omega) (by omega) (by omega) hag (fun h => .inl ⟨by omega, rfl⟩) (fun y hy h h' => .inl ⟨by omega, rfl⟩) fun h => .inl (.inl ⟨?_, rfl⟩)
  have hsame : Same b (X.sub b 0 (g : Int)) (8 * g) := fun p hp => by
    unfold bitN; rw [hag _ (by omega) (by omega)]
  have c1 := hb.cI
  have c2 := hb.cO
  unfold padB padBits at hlen
  unfold endB
  generalize ho : 8 + C * (colB R T + 2) = o at *
  by_cases h1 : 8 * o + 8 ≤ 8 * g
  · rw [rdB_same hsame h1, c1]
    by_cases h2 : 8 * o + (8 + 13 * nI) + 8 ≤ 8 * g
    · rw [rdB_same hsame h2, c2]; omega
    · omega
  · omega
theorem more_ok : Ok (P_stream_Decode (b ++ [0])) (fun r => r.2 = 4) := by
  have hlen := hb.len
  have hlx : (b ++ [(0 : Int)]).length = b.length + 1 := by simp
  have hz : Bytes [(0 : Int)] := fun x hx => by simp at hx; omega
  refine Decode_ok (E := fun e => e = 4) (g := b.length) hb hR hC hT (hb.head.bytes.app hz) (by omega) (by omega) (by omega) (fun i i0 i1 => gt_app_l (by omega)) (fun h => by omega) (fun y hy h h' => ?_) fun h => .inr ?_
  · have hm : (y + 1) * (colB R T + 2) ≤ C * (colB R T + 2) := Nat.mul_le_mul_right _ (by omega)
    rw [Nat.add_mul, Nat.one_mul] at hm
    omega
  · have c1 := hb.cI
    have c2 := hb.cO
    have hpd := hb.pad
    have hpz := hb.padz
    have hs := sameApp b [(0 : Int)]
    unfold endB
    generalize ho : 8 + C * (colB R T + 2) = o at *
    unfold padB padBits at *
    have d1 : rdB (b ++ [(0 : Int)]) (8 * o) 8 = nI := by rw [rdB_same hs (by omega), c1]
    rw [d1]
    have d2 : rdB (b ++ [(0 : Int)]) (8 * o + (8 + 13 * nI)) 8 = nO := by rw [rdB_same hs (by omega), c2]
    rw [d2]
    have he : (8 * o + (8 + 13 * nI) + (8 + 13 * nO) + 7) / 8 = o + (8 + 13 * nI + (8 + 13 * nO) + 7) / 8 := by omega
    rw [he]
    refine ⟨by omega, rfl, .inr ⟨hpd.app (by omega) (by omega) (by omega), fun q q0 q1 => ?_⟩⟩
    rw [bitN_appL (by omega)]
    exact hpz q (by omega) q1
end
theorem StreamNotices_ok {L : List Int} (hL : Strm L) {at_ change : Int} (h1 : I64 at_) (h2 : I64 change) : Ok (P_maskkeep4_StreamNotices L at_ change) (fun r => r = true) := by
  unfold P_maskkeep4_StreamNotices
  refine ok_bd (Config_ok hL) ?_
  rintro ⟨c, p⟩ ⟨hc, -⟩
  refine ok_bd (Encode_ok hc) ?_
  rintro ⟨b, e⟩ ⟨he, R, C, T, ⟨e1, e2, e3⟩, hb⟩
  simp only at he e1 e2 e3 hb hc
  subst he
  have a1 := hc.rows
  have a2 := hc.cols
  have a3 := hc.tracks
  have a4 := hc.inL
  have a5 := hc.outL
  have hlen := hb.len
  have hR : 1 ≤ R ∧ R ≤ 3 := by omega
  have hC : 1 ≤ C ∧ C ≤ 3 := by omega
  have hT : T = 2 ∨ T = 3 := by omega
  have hdl : colB R T ≤ 26 := by
    unfold colB
    rcases (by omega : R = 1 ∨ R = 2 ∨ R = 3) with e | e | e <;> rcases hT with e2 | e2 <;> subst e e2 <;> omega
  have hCb : C * (colB R T + 2) ≤ 3 * 28 := Nat.mul_le_mul (by omega) (by omega)
  have hpb : padB c.In.length c.Out.length ≤ 100 := by unfold padB padBits; omega
  have hl : b.length ≤ 5000 := by omega
  have h8 := hb.head.len
  refine ok_bd streams_ok ?_
  rintro _ rfl
  refine ok_lv (ok_lv (ok_f ?_ ?_))
  · simp; intro h; rw [h] at h8; simp at h8
  refine ok_bd (Below_ok at_ h1 (by simp only; omega)) ?_
  rintro k ⟨k0, k1, -⟩
  have k1 := k1 (by simp only; omega)
  simp only at k1
  refine ok_bd (clone8_ok (by simp only; omega)) ?_
  rintro r hr
  replace hr : b = r := hr.symm
  subst hr
  refine ok_ck ⟨k0, k1⟩ (ok_lv (ok_bd (Below_ok change h2 (by omega)) ?_))
  rintro d ⟨d0, d1, -⟩
  have d1 := d1 (by omega)
  refine ok_ar (by omega) (ok_lv' fun m em => ok_lv' fun v ev => ok_ck ⟨k0, k1⟩ (ok_lv ?_))
  obtain ⟨kn, rfl⟩ := Int.eq_ofNat_of_zero_le k0
  have hgk := hb.head.bytes.gt (kn : Int) k0
  obtain ⟨x, hx⟩ := Int.eq_ofNat_of_zero_le hgk.1
  obtain ⟨mn, rfl⟩ := Int.eq_ofNat_of_zero_le (show 0 ≤ m by omega)
  have ev : v = bXor .u8 (gt b (kn : Int)) (mn : Int) := ev
  rw [hx] at hgk ev
  rw [bXor_u8 (by omega) (by omega)] at ev
  have hv : 0 ≤ v ∧ v < 256 := by
    have := Nat.xor_lt_two_pow (n := 8) (x := x) (y := mn) (by omega) (by omega)
    omega
  have hne : v ≠ gt b (kn : Int) := by
    rw [hx, ev]
    have := xor_ne (a := x) (m := mn) (by omega)
    omega
  refine ok_bd (changed_ok hb hR hC hT hl ⟨k0, k1⟩ hv hne) ?_
  rintro ⟨x1, y1⟩ z1
  refine ok_ck ⟨by omega, k0, by simp only; omega⟩ (ok_lv (ok_bd (cut_ok hb hR hC hT hl ⟨k0, k1⟩) ?_))
  rintro ⟨x2, y2⟩ z2
  refine ok_bd (clone8_ok (by simp only; omega)) ?_
  rintro r hr
  replace hr : b = r := hr.symm
  subst hr
  refine ok_lv (ok_ck (by simp only [apOk, List.length_append, List.length_cons, List.length_nil]; omega) (ok_bd (more_ok hb hR hC hT hl) ?_))
  rintro ⟨x3, y3⟩ z3
  simp only at z1 z2 z3
  subst z2 z3
  exact ok_lv (ok_lv (ok_some (by simp [z1])))
end Go.Proofs.Ytnooiajahmichaa.X
