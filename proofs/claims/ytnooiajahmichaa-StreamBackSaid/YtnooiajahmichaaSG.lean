/- Parts of a stream: data with a checksum. Plain. -/
import Derived.Test.YtnooiajahmichaaSB
import Derived.Test.YtnooiajahmichaaSF
namespace Go.Proofs.Ytnooiajahmichaa.X
open Go Go.RowKit
set_option linter.unusedVariables false
theorem gt_appR {α : Type} [Inhabited α] {xs ys : List α} {i : Int} (h : (xs.length : Int) ≤ i) : gt (xs ++ ys) i = gt ys (i - xs.length) := by
  simp only [gt, List.getD_eq_getElem?_getD]
  rw [List.getElem?_append_right (by omega), show i.toNat - xs.length = (i - xs.length).toNat by omega]
theorem sub_length {α : Type} (xs : List α) {a b : Int} (h0 : 0 ≤ a) (h1 : a ≤ b) (h2 : b ≤ xs.length) : ((X.sub xs a b).length : Int) = b - a := by
  simp only [X.sub, List.length_drop, List.length_take]; omega
theorem gt_sub {α : Type} [Inhabited α] (xs : List α) {a b i : Int} (h0 : 0 ≤ a) (h1 : 0 ≤ i) (h2 : a + i < b) : gt (X.sub xs a b) i = gt xs (a + i) := by
  simp only [gt, X.sub, List.getD_eq_getElem?_getD, List.getElem?_drop, List.getElem?_take]
  rw [if_pos (by omega), show a.toNat + i.toNat = (a + i).toNat by omega]
/-- Two slices that read the same. -/
theorem sub_eq {x b : List Int} {a e : Int} (h0 : 0 ≤ a) (h1 : a ≤ e) (hx : e ≤ x.length) (hb : e ≤ b.length) (h : ∀ i, a ≤ i → i < e → gt x i = gt b i) : X.sub x a e = X.sub b a e := by
  have l1 := sub_length x h0 h1 hx
  have l2 := sub_length b h0 h1 hb
  refine ext_gt (by omega) fun j j0 j1 => ?_
  rw [gt_sub x h0 j0 (by omega), gt_sub b h0 j0 (by omega)]
  exact h _ (by omega) (by omega)
/-- The checksum of a part: its number, its bytes. -/
def psum (b : List Int) (num o e : Int) : Nat := crc ([0, num] ++ X.sub b o e)
/-- Behind the data lies the checksum. -/
structure PartAt (b : List Int) (num o e : Int) : Prop where
  hi : gt b e = (psum b num o e / 256 : Nat)
  lo : gt b (e + 1) = (psum b num o e % 256 : Nat)
theorem Bytes.app {a b : List Int} (ha : Bytes a) (hb : Bytes b) : Bytes (a ++ b) := fun x hx => (List.mem_append.1 hx).elim (ha x) (hb x)
theorem Bytes.sub {b : List Int} (hb : Bytes b) (a e : Int) : Bytes (X.sub b a e) := fun x hx => by unfold X.sub at hx; exact hb x (List.mem_of_mem_drop (List.mem_of_mem_take hx))
theorem bytes2 {num : Int} (h : 0 ≤ num ∧ num < 256) : Bytes [0, num] := fun x hx => by simp at hx; omega
theorem psum_lt {b : List Int} (hb : Bytes b) {num o e : Int} (h : 0 ≤ num ∧ num < 256) : psum b num o e < 65536 := crc_lt ((bytes2 h).app (hb.sub o e))
theorem psum_eq {x b : List Int} {num a e : Int} (h0 : 0 ≤ a) (h1 : a ≤ e) (hx : e ≤ x.length) (hb : e ≤ b.length) (h : ∀ i, a ≤ i → i < e → gt x i = gt b i) : psum x num a e = psum b num a e := by
  unfold psum; rw [sub_eq h0 h1 hx hb h]
theorem PartAt.same {x b : List Int} {num o e : Int} (h : PartAt b num o e) (h0 : 0 ≤ o) (h1 : o ≤ e) (hx : e + 2 ≤ x.length) (hb : e + 2 ≤ b.length) (hs : ∀ i, o ≤ i → i < e + 2 → gt x i = gt b i) : PartAt x num o e := by
  have hp : psum x num o e = psum b num o e := psum_eq h0 h1 (by omega) (by omega) fun i a c => hs i a (by omega)
  exact ⟨by rw [hs _ (by omega) (by omega), hp]; exact h.hi, by rw [hs _ (by omega) (by omega), hp]; exact h.lo⟩
/-- One byte of a part that is changed: the checksum tells. -/
theorem PartAt.notice {b : List Int} {num o e k v : Int} (hb : Bytes b) (h : PartAt b num o e) (hn : 0 ≤ num ∧ num < 256) (h0 : 0 ≤ o) (h1 : o ≤ e) (hl : e + 2 ≤ b.length) (hk : o ≤ k ∧ k < e + 2) (hv : 0 ≤ v ∧ v < 256) (hne : v ≠ gt b k) : ¬ PartAt (stt b k v) num o e := by
  intro h'
  have hki : inb k b.length := ⟨by omega, by omega⟩
  have hsl : (stt b k v).length = b.length := stt_length _ _ _
  have hg : ∀ i, 0 ≤ i → gt (stt b k v) i = if i = k then v else gt b i := fun i hi => gt_stt _ _ hki hi
  have hbk := hb.gt k (by omega)
  have hs := psum_lt hb (num := num) (o := o) (e := e) hn
  by_cases hin : k < e
  · -- in the data
    have a1 := h.hi
    have a2 := h.lo
    have b1 := h'.hi
    have b2 := h'.lo
    rw [hg _ (by omega), if_neg (by omega)] at b1 b2
    have heq : psum (stt b k v) num o e = psum b num o e := by omega
    unfold psum at heq
    have hd : ∀ w : Int, 0 ≤ w ∧ w < 256 → X.sub (stt b k w) o e = X.sub b o k ++ w :: X.sub b (k + 1) e := by
      intro w hw
      have hwl : (stt b k w).length = b.length := stt_length _ _ _
      have l1 := sub_length (stt b k w) h0 h1 (by omega)
      have l2 := sub_length b h0 hk.1 (by omega)
      have l3 := sub_length b (a := k + 1) (b := e) (by omega) (by omega) (by omega)
      refine ext_gt (by simp only [List.length_append, List.length_cons]; omega) fun j j0 j1 => ?_
      rw [gt_sub _ h0 j0 (by omega), gt_stt _ _ hki (by omega)]
      by_cases e1 : o + j < k
      · rw [if_neg (by omega), gt_app_l (by omega), gt_sub b h0 j0 e1]
      · by_cases e2 : o + j = k
        · rw [if_pos e2, gt_appR (by omega), show j - ((X.sub b o k).length : Int) = 0 by omega]; rfl
        · rw [if_neg e2, gt_appR (by omega)]
          obtain ⟨m, hm⟩ : ∃ m : Nat, j - ((X.sub b o k).length : Int) = m + 1 := ⟨(j - ((X.sub b o k).length : Int) - 1).toNat, by omega⟩
          rw [hm]
          have : gt (w :: X.sub b (k + 1) e) ((m : Int) + 1) = gt (X.sub b (k + 1) e) m := by
            simp only [gt, show ((m : Int) + 1).toNat = m + 1 by omega, Int.toNat_natCast, List.getD_cons_succ]
          rw [this, gt_sub b (by omega) (by omega) (by omega), show k + 1 + (m : Int) = o + j by omega]
    have hself : X.sub b o e = X.sub (stt b k (gt b k)) o e := by
      refine (sub_eq h0 h1 (by rw [stt_length]; omega) (by omega) fun i i0 i1 => ?_).symm
      rw [gt_stt _ _ hki (by omega)]
      split
      · rename_i e3; rw [e3]
      · rfl
    rw [hself, hd v hv, hd _ hbk] at heq
    exact hne (crc_notice (pre := [0, num] ++ X.sub b o k) ((bytes2 hn).app (hb.sub _ _)) (hb.sub _ _) hv hbk (by rw [List.append_assoc, List.append_assoc]; exact heq))
  · have hp : psum (stt b k v) num o e = psum b num o e := psum_eq h0 h1 (by omega) (by omega) fun i a c => by rw [hg _ (by omega), if_neg (by omega)]
    by_cases e1 : k = e
    · have := h'.hi
      rw [hg _ (by omega), if_pos e1.symm, hp, ← h.hi, ← e1] at this
      exact hne this
    · have := h'.lo
      rw [hg _ (by omega), if_pos (by omega), hp, ← h.lo, show e + 1 = k by omega] at this
      exact hne this
theorem hd_num {num : Int} (h : 0 ≤ num ∧ num < 256) : shr .i64 num 8 % 256 = 0 ∧ num % 256 = num := by
  obtain ⟨n, rfl⟩ := Int.eq_ofNat_of_zero_le h.1
  rw [show (8 : Int) = ((8 : Nat) : Int) from rfl, shr_nat (by decide)]
  omega
theorem byte_hi {s : Nat} (h : s < 65536) : shr .u16 (s : Int) 8 % 256 = (s / 256 : Nat) := by
  rw [show (8 : Int) = ((8 : Nat) : Int) from rfl, shr_nat (by decide)]
  omega
/-- reader.part: what it answers. -/
theorem part_ok {x : List Int} (hx : Bytes x) (hl : x.length ≤ 100000) {p o : Nat} {num : Int} {ov : Bool} (hn : 0 ≤ num ∧ num < 256) (hp : p ≤ 1000000) (ho : o ≤ (p + 7) / 8) :
    Ok (P_stream_reader_part (T_stream_reader.mk x p ov) o num) (fun r =>
      (x.length < (p + 7) / 8 + 2 → r.1 = 11) ∧
      ((p + 7) / 8 + 2 ≤ x.length → ¬ PartAt x num o ((p + 7) / 8 : Nat) → r.1 = 12) ∧
      (r.1 = 0 → r.2 = (8 * ((p + 7) / 8 + 2) : Nat)) ∧
      ((p + 7) / 8 + 2 ≤ x.length → PartAt x num o ((p + 7) / 8 : Nat) → (∀ q, p ≤ q → q < 8 * ((p + 7) / 8) → bitN x q = 0) → r.1 = 0)) := by
  unfold P_stream_reader_part
  have hd : Int.tdiv ((p : Int) + 7) 8 = ((p + 7) / 8 : Nat) := by rw [Int.tdiv_eq_ediv_of_nonneg (by omega)]; omega
  dsimp only
  refine ok_ar (by omega) (ok_ck (by omega) ?_)
  rw [hd]
  generalize he : (p + 7) / 8 = e at *
  refine ok_ar (by omega) (ok_ar (by omega) (ok_ite (fun hs => ok_some ⟨fun _ => rfl, fun h => by omega, fun h => by simp at h, fun h => by omega⟩) fun hs => ?_))
  have hnum := hd_num hn
  refine ok_ck (by omega) (ok_lv (ok_lv (ok_lv (ok_ck ⟨by omega, by omega, by omega⟩ (ok_lv (ok_lv ?_))))))
  rw [hnum.1, hnum.2]
  have hsl := sub_length x (a := (o : Int)) (b := (e : Int)) (by omega) (by omega) (by omega)
  refine ok_ck (by simp only [apOk, List.length_append, List.length_cons, List.length_nil]; omega) (ok_bd (Sum_ok ((bytes2 hn).app (hx.sub _ _)) (by simp only [List.length_append, List.length_cons, List.length_nil]; omega)) ?_)
  rintro _ rfl
  show Ok _ _
  have hps : crc ([0, num] ++ X.sub x (o : Int) (e : Int)) = psum x num o e := rfl
  rw [hps]
  have h16 := psum_lt hx (num := num) (o := o) (e := e) hn
  have hlo : ((psum x num o e : Nat) : Int) % 256 = (psum x num o e % 256 : Nat) := by omega
  rw [hlo]
  refine ok_ck ⟨by omega, by omega⟩ (ok_lv (ok_ck (by omega) (ok_lv ?_)))
  rw [byte_hi h16]
  refine ok_lv (ok_ck (fun _ => by omega) (ok_lv (ok_ck (fun _ => ⟨by omega, by omega⟩) (ok_lv (ok_lv (ok_lv (ok_ite (fun hq => ok_some ⟨fun h => by omega, fun _ _ => rfl, fun h => by simp at h, fun _ hpa => ?_⟩) fun hq => ?_)))))))
  · exfalso
    simp only [Bool.or_eq_true, decide_eq_true_eq] at hq
    rcases hq with h1 | h1
    · exact h1 hpa.hi
    · exact h1 hpa.lo
  have hpa : PartAt x num o e := by
    simp only [Bool.or_eq_true, decide_eq_true_eq, not_or, Decidable.not_not] at hq
    exact ⟨hq.1, hq.2⟩
  refine ok_bs (R := fun r => match r with | .inl a => a = ((8 * e : Nat) : Int) | .inr r => r.1 = 4 ∧ ∃ q, p ≤ q ∧ q < 8 * e ∧ bitN x q ≠ 0) ?_ (fun a ha => ok_ar (by omega) (ok_ar (by omega) (ok_some ⟨fun h => by omega, fun _ h => absurd hpa h, fun _ => by simp only; omega, fun _ _ _ => rfl⟩))) fun r hr => ok_some ⟨fun h => by omega, fun _ h => absurd hpa h, fun h => by omega, fun _ _ hz => ?_⟩
  · refine ok_lp (fun s => ∃ q : Nat, s = q ∧ p ≤ q ∧ q ≤ 8 * e) (fun s => (8 * (e : Int) - s).toNat) ⟨p, rfl, by omega, by omega⟩ (by omega) ?_
    rintro _ ⟨q, rfl, q0, q1⟩
    unfold P_stream_reader_part_L7
    have hd8 : Int.tdiv (q : Int) 8 = (q / 8 : Nat) := by rw [Int.tdiv_eq_ediv_of_nonneg (by omega)]; omega
    have hm8 : Int.tmod (q : Int) 8 = (q % 8 : Nat) := by rw [Int.tmod_eq_emod_of_nonneg (by omega)]; omega
    dsimp only
    rw [hd8, hm8]
    refine ok_ar (by omega) (ok_ite (fun hlt => ok_ck (by omega) (ok_ar (by omega) (ok_ck ⟨by omega, by omega⟩ (ok_lv' fun x86 e86 => ok_ck (by omega) (ok_lv (ok_ar' (by omega) fun x92 e92 => ?_)))))) fun hge => ok_some (by simp only; omega))
    have hb := hx.gt ((q / 8 : Nat) : Int) (by omega)
    rw [← e86] at hb
    obtain ⟨v, rfl⟩ := Int.eq_ofNat_of_zero_le hb.1
    have e92' : x92 = ((7 - q % 8 : Nat) : Int) := by omega
    subst e92'
    rw [shr_nat (by have : IntKind.u8.bits = 8 := rfl; omega)]
    have hle : v / 2 ^ (7 - q % 8) ≤ v := Nat.div_le_self _ _
    refine ok_ck (by omega) (ok_lv (ok_lv ?_))
    rw [bAnd1_u8 (by omega)]
    have hbit : bitN x q = v / 2 ^ (7 - q % 8) % 2 := by unfold bitN; rw [← e86, Int.toNat_natCast]
    rw [← hbit]
    refine ok_ite (fun h1 => ok_some ⟨rfl, q, q0, by omega, by omega⟩) fun h1 => ok_ar (by omega) (ok_some ⟨⟨q + 1, by omega, by omega, by omega⟩, by omega⟩)
  · obtain ⟨_, q, q0, q1, q2⟩ := hr
    exact absurd (hz q q0 q1) q2
end Go.Proofs.Ytnooiajahmichaa.X
