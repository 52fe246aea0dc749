/- stream.Encode: how what it returns is laid. Plain. -/
import Derived.Test.YtnooiajahmichaaSG
namespace Go.Proofs.Ytnooiajahmichaa.X
open Go Go.RowKit
set_option linter.unusedVariables false
theorem size9 : P_stream_size 9 = some 4 := by decide +kernel
theorem size13 : P_stream_size 13 = some 4 := by decide +kernel
theorem size_ok {x : Int} (h : x = 9 ∨ x = 13) : Ok (P_stream_size x) (fun r => r = 4) := by
  rcases h with rfl | rfl
  · exact ⟨4, size9, rfl⟩
  · exact ⟨4, size13, rfl⟩
theorem wput {b : List Int} {left : Int} {L : Nat} (h : Wr b left L) {v m : Int} {mn : Nat} (hm : m = mn) (hv : 0 ≤ v ∧ v < 18446744073709551616) (h64 : mn ≤ 64) (hl : L ≤ 1000000) :
    Ok (P_stream_writer_bits_2 (T_stream_writer.mk b left) v m) (fun r => Wr r.1 r.2 (L + mn) ∧ Put b r.1 L v.toNat mn) := by
  subst hm
  obtain ⟨n, rfl⟩ := Int.eq_ofNat_of_zero_le hv.1
  exact wbits_ok h (by omega) h64 hl
def Same (b b' : List Int) (L : Nat) : Prop := ∀ p, p < L → bitN b' p = bitN b p
theorem Same.trans {a b c : List Int} {L M : Nat} (h : Same a b L) (k : Same b c M) (hle : L ≤ M) : Same a c L := fun p hp => (k p (by omega)).trans (h p hp)
theorem Put.same {b b' : List Int} {L n m : Nat} (h : Put b b' L n m) : Same b b' L := h.old
theorem Put.rd {b b' : List Int} {L n m : Nat} (h : Put b b' L n m) (hn : n < 2 ^ m) : rdB b' L m = n := rd_whole h.new hn
theorem rdB_same {b b' : List Int} {L p k : Nat} (h : Same b b' L) (hk : p + k ≤ L) : rdB b' p k = rdB b p k := rd_congr fun i hi => h _ (by omega)

/-- The bytes of a part behind its data. -/
def tail2 (num : Int) (data : List Int) : List Int := [((crc ([0, num] ++ data) / 256 : Nat) : Int), ((crc ([0, num] ++ data) % 256 : Nat) : Int)]
theorem closed_ok {data : List Int} {left : Int} (hb : Bytes data) {num : Int} (hn : 0 ≤ num ∧ num < 256) (hl : data.length ≤ 10000) : Ok (P_stream_closed num (T_stream_writer.mk data left)) (fun r => r = data ++ tail2 num data) := by
  have hnum := hd_num hn
  unfold P_stream_closed
  refine ok_ck (by omega) (ok_lv (ok_lv (ok_lv (ok_lv ?_))))
  rw [hnum.1, hnum.2]
  refine ok_ck (by simp only [apOk, List.length_append, List.length_cons, List.length_nil]; omega) (ok_bd (Sum_ok ((bytes2 hn).app hb) (by simp only [List.length_append, List.length_cons, List.length_nil]; omega)) ?_)
  rintro _ rfl
  have h16 : crc ([0, num] ++ data) < 65536 := crc_lt ((bytes2 hn).app hb)
  refine ok_ck (by omega) (ok_lv ?_)
  rw [byte_hi h16]
  refine ok_lv (ok_lv (ok_lv (ok_ck (by simp only [apOk, List.length_append, List.length_cons, List.length_nil]; omega) (ok_some ?_))))
  unfold tail2
  have hlo : ((crc ([0, num] ++ data) : Nat) : Int) % 256 = (crc ([0, num] ++ data) % 256 : Nat) := by omega
  rw [hlo]
theorem tail2_bytes {num : Int} {data : List Int} (hb : Bytes data) (hn : 0 ≤ num ∧ num < 256) : Bytes (tail2 num data) := by
  have h16 : crc ([0, num] ++ data) < 65536 := crc_lt ((bytes2 hn).app hb)
  intro x hx
  unfold tail2 at hx
  simp only [List.mem_cons, List.not_mem_nil, or_false] at hx
  omega
/-- A part that stands behind others. -/
theorem partAt_new {out data : List Int} {num : Int} : PartAt (out ++ (data ++ tail2 num data)) num out.length ((out.length : Int) + data.length) := by
  have hs : X.sub (out ++ (data ++ tail2 num data)) (out.length : Int) ((out.length : Int) + data.length) = data := by
    have hlen : ((out ++ (data ++ tail2 num data)).length : Int) = out.length + (data.length + 2) := by simp [tail2]
    have l1 := sub_length (out ++ (data ++ tail2 num data)) (a := (out.length : Int)) (b := (out.length : Int) + data.length) (by omega) (by omega) (by omega)
    refine ext_gt (by omega) fun j j0 j1 => ?_
    rw [gt_sub _ (by omega) j0 (by omega), gt_appR (by omega), show (out.length : Int) + j - out.length = j by omega, gt_app_l (by omega)]
  constructor
  · rw [gt_appR (by omega), show (out.length : Int) + data.length - out.length = data.length by omega, gt_appR (by omega), show (data.length : Int) - data.length = 0 by omega]
    unfold psum; rw [hs]; rfl
  · rw [gt_appR (by omega), show (out.length : Int) + data.length + 1 - out.length = data.length + 1 by omega, gt_appR (by omega), show (data.length : Int) + 1 - data.length = 1 by omega]
    unfold psum; rw [hs]; rfl
theorem bitN_appL {a z : List Int} {p : Nat} (h : p < 8 * a.length) : bitN (a ++ z) p = bitN a p := by
  unfold bitN; rw [gt_app_l (by omega)]
theorem bitN_appR {a z : List Int} {p : Nat} : bitN (a ++ z) (8 * a.length + p) = bitN z p := by
  unfold bitN
  rw [gt_appR (by omega), show (8 * a.length + p) % 8 = p % 8 by omega, show (((8 * a.length + p) / 8 : Nat) : Int) - a.length = ((p / 8 : Nat) : Int) by omega]
theorem PartAt.app {b z : List Int} {num o e : Int} (h : PartAt b num o e) (h0 : 0 ≤ o) (h1 : o ≤ e) (hl : e + 2 ≤ b.length) : PartAt (b ++ z) num o e :=
  h.same h0 h1 (by simp only [List.length_append]; omega) hl fun i i0 i1 => gt_app_l (by omega)
end Go.Proofs.Ytnooiajahmichaa.X
