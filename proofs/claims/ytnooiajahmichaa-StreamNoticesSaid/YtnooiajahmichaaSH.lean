/- stream.Encode: how what it returns is laid. Plain. -/
import Derived.Test.YtnooiajahmichaaSG
namespace Go.Proofs.Ytnooiajahmichaa.X
open Go Go.RowKit
set_option linter.unusedVariables false
theorem size9 : P_stream_size 9 = some 4 := by decide +kernel
theorem size13 : P_stream_size 13 = some 4 := by decide +kernel
theorem size_ok {x : Int} (h : x = 9 ∨ x = 13) : Ok (P_stream_size x) (fun r => r = 4) := by
  rcases h with rfl | rfl
  · exact ⟨4, size9, rfl⟩
  · exact ⟨4, size13, rfl⟩
theorem wput {b : List Int} {left : Int} {L : Nat} (h : Wr b left L) {v m : Int} {mn : Nat} (hm : m = mn) (hv : 0 ≤ v ∧ v < 18446744073709551616) (h64 : mn ≤ 64) (hl : L ≤ 1000000) :
    Ok (P_stream_writer_bits_2 (T_stream_writer.mk b left) v m) (fun r => Wr r.1 r.2 (L + mn) ∧ Put b r.1 L v.toNat mn) := by
  subst hm
  obtain ⟨n, rfl⟩ := Int.eq_ofNat_of_zero_le hv.1
  exact wbits_ok h (by omega) h64 hl
def Same (b b' : List Int) (L : Nat) : Prop := ∀ p, p < L → bitN b' p = bitN b p
theorem Same.trans {a b c : List Int} {L M : Nat} (h : Same a b L) (k : Same b c M) (hle : L ≤ M) : Same a c L := fun p hp => (k p (by omega)).trans (h p hp)
theorem Put.same {b b' : List Int} {L n m : Nat} (h : Put b b' L n m) : Same b b' L := h.old
theorem Put.rd {b b' : List Int} {L n m : Nat} (h : Put b b' L n m) (hn : n < 2 ^ m) : rdB b' L m = n := rd_whole h.new hn
theorem rdB_same {b b' : List Int} {L p k : Nat} (h : Same b b' L) (hk : p + k ≤ L) : rdB b' p k = rdB b p k := rd_congr fun i hi => h _ (by omega)
/-- Writing a row of small numbers, three bits each. -/
theorem tile_loop {xs : List Int} {body : (Int × List Int × Int) → Option ((Int × List Int × Int) ⊕ (List Int × Int))}
    (hb : ∀ y b l, body (y, b, l) = (if y < (xs.length : Int) then ck (inb y xs.length) <| X.lv (gt xs y) fun x => X.lv (x % 18446744073709551616) fun x50 => bd (P_stream_writer_bits_2 (T_stream_writer.mk b l) x50 3) fun r => ar (y + 1) fun x52 => some (Sum.inl (x52, r.1, r.2)) else some (Sum.inr (b, l))))
    {b : List Int} {left : Int} {L : Nat} (h : Wr b left L) (hl : L ≤ 100000) (hx : xs.length ≤ 100) : Ok (lp body fuel (0, b, left)) (fun r => Wr r.1 r.2 (L + 3 * xs.length) ∧ Same b r.1 L) := by
  refine ok_lp (fun s => ∃ y : Nat, s.1 = y ∧ y ≤ xs.length ∧ Wr s.2.1 s.2.2 (L + 3 * y) ∧ Same b s.2.1 L) (fun s => ((xs.length : Int) - s.1).toNat) ⟨0, rfl, by omega, h, fun p _ => rfl⟩ (by simp only; omega) ?_
  rintro ⟨_, b1, l1⟩ ⟨y, rfl, y1, hw, hs⟩
  simp only at hw hs
  rw [hb]
  refine ok_ite (fun hlt => ok_ck ⟨by omega, hlt⟩ (ok_lv (ok_lv (ok_bd (wput hw (mn := 3) rfl (by omega) (by omega) (by omega)) ?_)))) fun hge => ok_some (by rw [show xs.length = y by omega]; exact ⟨hw, hs⟩)
  rintro ⟨b2, l2⟩ ⟨h1, h2⟩
  simp only at h1 h2
  exact ok_ar (by omega) (ok_some ⟨⟨y + 1, by simp only; omega, by omega, by simp only; rw [show L + 3 * (y + 1) = L + 3 * y + 3 by omega]; exact h1, hs.trans h2.same (by omega)⟩, by simp only; omega⟩)
theorem wtile_ok {b : List Int} {left : Int} {L T : Nat} (h : Wr b left L) {t : T_array_Tile} (hT : T = 2 ∨ T = 3) (ht : TileOk T t) (hl : L ≤ 10000) : Ok (P_stream_writer_tile_2 (T_stream_writer.mk b left) t T) (fun r => Wr r.1 r.2 (L + (33 + 12 * T)) ∧ Same b r.1 L) := by
  have l0 := ht.l0
  have l1 := ht.l1
  have l2 := ht.l2
  have l3 := ht.l3
  have hsz : (1 : Int) + 4 * (T : Int) = 9 ∨ (1 : Int) + 4 * (T : Int) = 13 := by omega
  unfold P_stream_writer_tile_2
  refine ok_lv (ok_bd (wput h (mn := 16) rfl (by omega) (by omega) (by omega)) ?_)
  rintro ⟨b1, q1⟩ ⟨w1, p1⟩
  refine ok_bd (R := fun x => 0 ≤ x ∧ x ≤ 1) (ok_ite (fun _ => ok_some (by omega)) fun _ => ok_some (by omega)) fun x hx => ok_bd (wput w1 (mn := 1) rfl (by omega) (by omega) (by omega)) ?_
  rintro ⟨b2, q2⟩ ⟨w2, p2⟩
  refine ok_lv (ok_ar (by omega) (ok_ar (by omega) (ok_bd (size_ok hsz) ?_)))
  rintro _ rfl
  refine ok_bd (wput w2 (mn := 4) rfl (by omega) (by omega) (by omega)) ?_
  rintro ⟨b3, q3⟩ ⟨w3, p3⟩
  refine ok_lv (ok_ar (by omega) (ok_ar (by omega) (ok_bd (size_ok hsz) ?_)))
  rintro _ rfl
  refine ok_bd (wput w3 (mn := 4) rfl (by omega) (by omega) (by omega)) ?_
  rintro ⟨b4, q4⟩ ⟨w4, p4⟩
  refine ok_lv (ok_ar (by omega) (ok_ar (by omega) (ok_bd (size_ok hsz) ?_)))
  rintro _ rfl
  refine ok_bd (wput w4 (mn := 4) rfl (by omega) (by omega) (by omega)) ?_
  rintro ⟨b5, q5⟩ ⟨w5, p5⟩
  refine ok_lv (ok_ar (by omega) (ok_ar (by omega) (ok_bd (size_ok hsz) ?_)))
  rintro _ rfl
  refine ok_bd (wput w5 (mn := 4) rfl (by omega) (by omega) (by omega)) ?_
  rintro ⟨b6, q6⟩ ⟨w6, p6⟩
  simp only at w1 p1 w2 p2 w3 p3 w4 p4 w5 p5 w6 p6
  refine ok_bd (tile_loop (xs := t.Out.fe0) (body := P_stream_writer_tile_2_L15u4 t) (fun _ _ _ => rfl) w6 (by omega) (by omega)) ?_
  rintro ⟨b7, q7⟩ ⟨w7, s7⟩
  simp only at w7 s7
  refine ok_bd (tile_loop (xs := t.Out.fe1) (body := P_stream_writer_tile_2_L15u3 t) (fun _ _ _ => rfl) w7 (by omega) (by omega)) ?_
  rintro ⟨b8, q8⟩ ⟨w8, s8⟩
  simp only at w8 s8
  refine ok_bd (tile_loop (xs := t.Out.fe2) (body := P_stream_writer_tile_2_L15u2 t) (fun _ _ _ => rfl) w8 (by omega) (by omega)) ?_
  rintro ⟨b9, q9⟩ ⟨w9, s9⟩
  simp only at w9 s9
  refine ok_bd (tile_loop (xs := t.Out.fe3) (body := P_stream_writer_tile_2_L15u1 t) (fun _ _ _ => rfl) w9 (by omega) (by omega)) ?_
  rintro ⟨b10, q10⟩ ⟨w10, s10⟩
  simp only at w10 s10
  refine ok_some ⟨?_, ?_⟩
  · rw [show L + (33 + 12 * T) = L + 16 + 1 + 4 + 4 + 4 + 4 + 3 * t.Out.fe0.length + 3 * t.Out.fe1.length + 3 * t.Out.fe2.length + 3 * t.Out.fe3.length by omega]
    exact w10
  · refine (((((((((p1.same.trans p2.same (by omega)).trans p3.same (by omega)).trans p4.same (by omega)).trans p5.same (by omega)).trans p6.same (by omega)).trans s7 (by omega)).trans s8 (by omega)).trans s9 (by omega)).trans s10 (by omega))
theorem wpads_ok {b : List Int} {left : Int} {L : Nat} (h : Wr b left L) {ps : List T_array_Pad} (hp : ps.length ≤ 200) (hl : L ≤ 10000) : Ok (P_stream_writer_pads_2 (T_stream_writer.mk b left) ps) (fun r => Wr r.1 r.2 (L + (8 + 13 * ps.length)) ∧ Same b r.1 L ∧ rdB r.1 L 8 = ps.length) := by
  unfold P_stream_writer_pads_2
  refine ok_lv (ok_bd (wput h (mn := 8) rfl (by omega) (by omega) (by omega)) ?_)
  rintro ⟨b1, q1⟩ ⟨w1, p1⟩
  simp only at w1 p1
  have hc := p1.rd (by have : (2 : Nat) ^ 8 = 256 := by decide
                       omega)
  have hn : ((ps.length : Int) % 18446744073709551616).toNat = ps.length := by omega
  rw [hn] at hc
  refine ok_bd (R := fun r => Wr r.1 r.2 (L + 8 + 13 * ps.length) ∧ Same b1 r.1 (L + 8)) ?_ ?_
  · refine ok_lp (fun s => ∃ y : Nat, s.1 = y ∧ y ≤ ps.length ∧ Wr s.2.1 s.2.2 (L + 8 + 13 * y) ∧ Same b1 s.2.1 (L + 8)) (fun s => ((ps.length : Int) - s.1).toNat) ⟨0, rfl, by omega, w1, fun p _ => rfl⟩ (by simp only; omega) ?_
    rintro ⟨_, b2, q2⟩ ⟨y, rfl, y1, hw, hs⟩
    simp only at hw hs
    unfold P_stream_writer_pads_2_L2
    dsimp only
    refine ok_ite (fun hlt => ok_ck ⟨by omega, hlt⟩ (ok_lv (ok_lv (ok_bd (wput hw (mn := 4) rfl (by omega) (by omega) (by omega)) ?_)))) fun hge => ok_some (by rw [show ps.length = y by omega]; exact ⟨hw, hs⟩)
    rintro ⟨b3, q3⟩ ⟨w3, p3⟩
    refine ok_lv (ok_bd (wput w3 (mn := 4) rfl (by omega) (by omega) (by omega)) ?_)
    rintro ⟨b4, q4⟩ ⟨w4, p4⟩
    refine ok_lv (ok_bd (wput w4 (mn := 2) rfl (by omega) (by omega) (by omega)) ?_)
    rintro ⟨b5, q5⟩ ⟨w5, p5⟩
    refine ok_lv (ok_bd (wput w5 (mn := 3) rfl (by omega) (by omega) (by omega)) ?_)
    rintro ⟨b6, q6⟩ ⟨w6, p6⟩
    simp only at w3 p3 w4 p4 w5 p5 w6 p6
    exact ok_ar (by omega) (ok_some ⟨⟨y + 1, by simp only; omega, by omega, by simp only; rw [show L + 8 + 13 * (y + 1) = L + 8 + 13 * y + 4 + 4 + 2 + 3 by omega]; exact w6, (((hs.trans p3.same (by omega)).trans p4.same (by omega)).trans p5.same (by omega)).trans p6.same (by omega)⟩, by simp only; omega⟩)
  rintro ⟨b2, q2⟩ ⟨w2, s2⟩
  simp only at w2 s2
  exact ok_some ⟨by simp only; rw [show L + (8 + 13 * ps.length) = L + 8 + 13 * ps.length by omega]; exact w2, p1.same.trans s2 (by omega), by simp only; rw [rdB_same s2 (by omega), hc]⟩
/-- The bytes of a part behind its data. -/
def tail2 (num : Int) (data : List Int) : List Int := [((crc ([0, num] ++ data) / 256 : Nat) : Int), ((crc ([0, num] ++ data) % 256 : Nat) : Int)]
theorem closed_ok {data : List Int} {left : Int} (hb : Bytes data) {num : Int} (hn : 0 ≤ num ∧ num < 256) (hl : data.length ≤ 10000) : Ok (P_stream_closed num (T_stream_writer.mk data left)) (fun r => r = data ++ tail2 num data) := by
  have hnum := hd_num hn
  unfold P_stream_closed
  refine ok_ck (by omega) (ok_lv (ok_lv (ok_lv (ok_lv ?_))))
  rw [hnum.1, hnum.2]
  refine ok_ck (by simp only [apOk, List.length_append, List.length_cons, List.length_nil]; omega) (ok_bd (Sum_ok ((bytes2 hn).app hb) (by simp only [List.length_append, List.length_cons, List.length_nil]; omega)) ?_)
  rintro _ rfl
  have h16 : crc ([0, num] ++ data) < 65536 := crc_lt ((bytes2 hn).app hb)
  refine ok_ck (by omega) (ok_lv ?_)
  rw [byte_hi h16]
  refine ok_lv (ok_lv (ok_lv (ok_ck (by simp only [apOk, List.length_append, List.length_cons, List.length_nil]; omega) (ok_some ?_))))
  unfold tail2
  have hlo : ((crc ([0, num] ++ data) : Nat) : Int) % 256 = (crc ([0, num] ++ data) % 256 : Nat) := by omega
  rw [hlo]
theorem tail2_bytes {num : Int} {data : List Int} (hb : Bytes data) (hn : 0 ≤ num ∧ num < 256) : Bytes (tail2 num data) := by
  have h16 : crc ([0, num] ++ data) < 65536 := crc_lt ((bytes2 hn).app hb)
  intro x hx
  unfold tail2 at hx
  simp only [List.mem_cons, List.not_mem_nil, or_false] at hx
  omega
/-- A part that stands behind others. -/
theorem partAt_new {out data : List Int} {num : Int} : PartAt (out ++ (data ++ tail2 num data)) num out.length ((out.length : Int) + data.length) := by
  have hs : X.sub (out ++ (data ++ tail2 num data)) (out.length : Int) ((out.length : Int) + data.length) = data := by
    have hlen : ((out ++ (data ++ tail2 num data)).length : Int) = out.length + (data.length + 2) := by simp [tail2]
    have l1 := sub_length (out ++ (data ++ tail2 num data)) (a := (out.length : Int)) (b := (out.length : Int) + data.length) (by omega) (by omega) (by omega)
    refine ext_gt (by omega) fun j j0 j1 => ?_
    rw [gt_sub _ (by omega) j0 (by omega), gt_appR (by omega), show (out.length : Int) + j - out.length = j by omega, gt_app_l (by omega)]
  constructor
  · rw [gt_appR (by omega), show (out.length : Int) + data.length - out.length = data.length by omega, gt_appR (by omega), show (data.length : Int) - data.length = 0 by omega]
    unfold psum; rw [hs]; rfl
  · rw [gt_appR (by omega), show (out.length : Int) + data.length + 1 - out.length = data.length + 1 by omega, gt_appR (by omega), show (data.length : Int) + 1 - data.length = 1 by omega]
    unfold psum; rw [hs]; rfl
theorem bitN_appL {a z : List Int} {p : Nat} (h : p < 8 * a.length) : bitN (a ++ z) p = bitN a p := by
  unfold bitN; rw [gt_app_l (by omega)]
theorem bitN_appR {a z : List Int} {p : Nat} : bitN (a ++ z) (8 * a.length + p) = bitN z p := by
  unfold bitN
  rw [gt_appR (by omega), show (8 * a.length + p) % 8 = p % 8 by omega, show (((8 * a.length + p) / 8 : Nat) : Int) - a.length = ((p / 8 : Nat) : Int) by omega]
theorem PartAt.app {b z : List Int} {num o e : Int} (h : PartAt b num o e) (h0 : 0 ≤ o) (h1 : o ≤ e) (hl : e + 2 ≤ b.length) : PartAt (b ++ z) num o e :=
  h.same h0 h1 (by simp only [List.length_append]; omega) hl fun i i0 i1 => gt_app_l (by omega)
end Go.Proofs.Ytnooiajahmichaa.X
