/- maskkeep4.StreamBack answers true. Plain. -/
import Derived.Test.YtnooiajahmichaaSO
import Derived.Test.YtnooiajahmichaaSQ
namespace Go.Proofs.Ytnooiajahmichaa.X
open Go Go.RowKit
set_option linter.unusedVariables false
set_option linter.unusedSimpArgs false
theorem streams_ok : Ok P_maskkeep4_streams (fun r => r = true) := ⟨true, by decide +kernel, rfl⟩
theorem bytesEq_ok {xs : List Int} (hl : xs.length ≤ 1000000) : Ok (P_slices_Equal_byte_byte xs xs) (fun r => r = true) := by
  unfold P_slices_Equal_byte_byte
  refine ok_f (by simp) (ok_bs1 (R := fun _ => True) ?_ fun _ _ => ok_some rfl)
  refine ok_lp (fun y => 0 ≤ y ∧ y ≤ xs.length) (fun y => ((xs.length : Int) - y).toNat) ⟨by omega, by omega⟩ (by omega) ?_
  rintro y ⟨y0, y1⟩
  unfold P_slices_Equal_byte_byte_L4
  exact ok_ite (fun hlt => ok_ck ⟨y0, hlt⟩ (ok_lv (ok_ck ⟨y0, hlt⟩ (ok_lv (ok_f (by simp) (ok_ar (by omega) (ok_some ⟨⟨by omega, by omega⟩, by omega⟩))))))) fun hge => ok_some ⟨_, rfl, trivial⟩
theorem boolsEq_ok {xs : List Bool} (hl : xs.length ≤ 1000000) : Ok (P_slices_Equal_bool_bool xs xs) (fun r => r = true) := by
  unfold P_slices_Equal_bool_bool
  refine ok_f (by simp) (ok_bs1 (R := fun _ => True) ?_ fun _ _ => ok_some rfl)
  refine ok_lp (fun y => 0 ≤ y ∧ y ≤ xs.length) (fun y => ((xs.length : Int) - y).toNat) ⟨by omega, by omega⟩ (by omega) ?_
  rintro y ⟨y0, y1⟩
  unfold P_slices_Equal_bool_bool_L4
  exact ok_ite (fun hlt => ok_ck ⟨y0, hlt⟩ (ok_lv (ok_ck ⟨y0, hlt⟩ (ok_lv (ok_f (by simp) (ok_ar (by omega) (ok_some ⟨⟨by omega, by omega⟩, by omega⟩))))))) fun hge => ok_some ⟨_, rfl, trivial⟩
theorem rowsEq_ok {xs : List (List Bool)} (hl : xs.length ≤ 1000000) (hr : ∀ i, inb i xs.length → (gt xs i).length ≤ 100) : Ok (P_slices_EqualFunc_bool_bool_bool_bool xs xs) (fun r => r = true) := by
  unfold P_slices_EqualFunc_bool_bool_bool_bool
  refine ok_f (by simp) (ok_bs1 (R := fun _ => True) ?_ fun _ _ => ok_some rfl)
  refine ok_lp (fun y => 0 ≤ y ∧ y ≤ xs.length) (fun y => ((xs.length : Int) - y).toNat) ⟨by omega, by omega⟩ (by omega) ?_
  rintro y ⟨y0, y1⟩
  unfold P_slices_EqualFunc_bool_bool_bool_bool_L4
  refine ok_ite (fun hlt => ok_ck ⟨y0, hlt⟩ (ok_lv (ok_ck ⟨y0, hlt⟩ (ok_lv (ok_bd (boolsEq_ok (by have := hr y ⟨y0, hlt⟩; omega)) ?_))))) fun hge => ok_some ⟨_, rfl, trivial⟩
  rintro _ rfl
  exact ok_f (by simp) (ok_ar (by omega) (ok_some ⟨⟨by omega, by omega⟩, by omega⟩))
theorem Values_ok {L : List Int} (hL : Strm L) {k n : Int} (hk : Few (k + 1000)) (hk0 : 0 ≤ k) (hn : 0 ≤ n ∧ n ≤ 100) : Ok (P_maskmake_Stream_Values (T_maskmake_Stream.mk L k) n) (fun r => (r.1.length : Int) = n ∧ r.2 = k + n) := by
  unfold P_maskmake_Stream_Values
  refine ok_bd (R := fun r => (r.1.length : Int) = n ∧ r.2 = k + n) ?_ fun r hr => ok_some hr
  refine ok_lp (fun s => 0 ≤ s.2.1 ∧ s.2.1 ≤ n ∧ (s.1.length : Int) = s.2.1 ∧ s.2.2 = k + s.2.1) (fun s => (n - s.2.1).toNat) ⟨by simp, by simp only; omega, by simp, by simp⟩ (by simp only; omega) ?_
  rintro ⟨xs, y, q⟩ ⟨y0, y1, y2, y3⟩
  simp only at y0 y1 y2 y3
  unfold P_maskmake_Stream_Values_L3
  dsimp only
  refine ok_ite (fun hlt => ok_bd (hL.next (by omega) (by omega)) ?_) fun hge => ok_some ⟨by simp only; omega, by simp only; omega⟩
  rintro ⟨v, q2⟩ ⟨-, -, -, rfl⟩
  refine ok_lv (ok_ck ?_ (ok_ar (by omega) (ok_some ⟨⟨by simp only; omega, by simp only; omega, by simp only [List.length_append, List.length_singleton]; omega, by simp only; omega⟩, by simp only; omega⟩)))
  simp only [apOk, List.length_append, List.length_singleton]; omega
theorem Played_ok {L : List Int} (hL : Strm L) {k : Int} {n : Nat} (hk : Few (k + 10000)) (hk0 : 0 ≤ k) (hn : n ≤ 100) : Ok (P_maskmake_Stream_Played (T_maskmake_Stream.mk L k) 5 n) (fun r => r.1.length = 5 ∧ ∀ i, inb i r.1.length → (gt r.1 i).length = n) := by
  unfold P_maskmake_Stream_Played
  refine ok_bd (R := fun r => r.1.length = 5 ∧ ∀ i, inb i r.1.length → (gt r.1 i).length = n) ?_ fun r hr => ok_some hr
  refine ok_lp (fun s => 0 ≤ s.2.1 ∧ s.2.1 ≤ 5 ∧ (s.1.length : Int) = s.2.1 ∧ (k ≤ s.2.2 ∧ s.2.2 ≤ k + 100 * s.2.1) ∧ ∀ i, inb i s.1.length → (gt s.1 i).length = n) (fun s => (5 - s.2.1).toNat) ⟨by simp, by simp, by simp, by simp, fun i hi => by obtain ⟨a, b⟩ := hi; simp at b; omega⟩ (by simp only; omega) ?_
  rintro ⟨xs, y, q⟩ ⟨y0, y1, y2, y3, y4⟩
  simp only at y0 y1 y2 y3 y4
  unfold P_maskmake_Stream_Played_L3
  dsimp only
  refine ok_ite (fun hlt => ok_bd (Values_ok hL (by omega) (by omega) (by omega)) ?_) fun hge => ok_some ⟨by simp only; omega, y4⟩
  rintro ⟨v, q2⟩ ⟨v1, rfl⟩
  simp only at v1
  refine ok_lv (ok_ck ?_ (ok_ar (by omega) (ok_some ⟨⟨by simp only; omega, by simp only; omega, by simp only [List.length_append, List.length_singleton]; omega, by simp only; omega, fun i hi => ?_⟩, by simp only; omega⟩)))
  · simp only [apOk, List.length_append, List.length_singleton]; omega
  · simp only at hi ⊢
    rcases gt_snocP hi with ⟨h1, e⟩ | ⟨h1, e⟩
    · rw [e]; exact y4 i h1
    · rw [e]; omega
theorem StreamBack_ok {L : List Int} (hL : Strm L) : Ok (P_maskkeep4_StreamBack L) (fun r => r = true) := by
  unfold P_maskkeep4_StreamBack
  refine ok_bd (Config_ok hL) ?_
  rintro ⟨c, p⟩ ⟨hc, p0, p1⟩
  simp only at hc p0 p1
  obtain ⟨⟨b, e⟩, he, e0, R, C, T, ⟨e1, e2, e3⟩, hb, hv⟩ := Encode_val hc
  simp only at e0 hb hv
  subst e0
  have a1 := hc.rows
  have a2 := hc.cols
  have a3 := hc.tracks
  have a4 := hc.inL
  have a5 := hc.outL
  have hlen := hb.len
  have hdl : colB R T ≤ 26 := by
    unfold colB
    rcases (by omega : R = 1 ∨ R = 2 ∨ R = 3) with e | e | e <;> rcases (by omega : T = 2 ∨ T = 3) with e2 | e2 <;> subst e e2 <;> omega
  have hCb : C * (colB R T + 2) ≤ 3 * 28 := Nat.mul_le_mul (by omega) (by omega)
  have hpb : padB c.In.length c.Out.length ≤ 100 := by unfold padB padBits; omega
  have hl : b.length ≤ 5000 := by omega
  refine ok_bd (R := fun r => (b, 0) = r) ⟨(b, 0), he, rfl⟩ ?_
  rintro _ rfl
  refine ok_bd (Decode_val hc e1 e2 e3 hb hv (by simp only; omega)) ?_
  rintro _ rfl
  refine ok_bd (R := fun r => (b, 0) = r) ⟨(b, 0), he, rfl⟩ ?_
  rintro _ rfl
  refine ok_bd (Played_ok hL (by omega) (by omega) (by simp only; omega)) ?_
  rintro ⟨tr, q⟩ ⟨t1, t2⟩
  simp only at t1 t2
  obtain ⟨⟨o, z⟩, hr, z0, z1, z2⟩ := Run_ok hc (tr := tr) (by omega) t2
  simp only at z0 z1 z2
  subst z0
  refine ok_bd (R := fun r => (o, 0) = r) ⟨(o, 0), hr, rfl⟩ ?_
  rintro _ rfl
  refine ok_bd (R := fun r => (o, 0) = r) ⟨(o, 0), hr, rfl⟩ ?_
  rintro _ rfl
  refine ok_bd streams_ok ?_
  rintro _ rfl
  refine ok_lv (ok_lv (ok_lv (ok_lv (ok_lv (ok_bd (R := fun r => r = true) (ok_gd (fun _ => bytesEq_ok (by simp only; omega)) (fun h => by simp at h)) ?_)))))
  rintro _ rfl
  refine ok_lv (ok_bd (R := fun r => r = true) (ok_gd (fun _ => rowsEq_ok (by simp only; omega) z2) (fun h => by simp at h)) ?_)
  rintro _ rfl
  exact ok_lv (ok_some (by simp))
end Go.Proofs.Ytnooiajahmichaa.X
