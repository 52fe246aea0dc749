/- The words of a stream, and what Netlist returns. Plain. -/
import Derived.Test.YtkenpbnpemjbhaaDoorKA
namespace Go.Proofs.YtkenpbnpemjbhaaDoor.X
open Go Go.RowKit
set_option linter.unusedVariables false
set_option linter.unusedSimpArgs false
set_option linter.unusedSectionVars false
theorem byteAt_mem {s : ByteArray} {i : Int} (h : inb i s.size) : ∃ b ∈ s.data.toList, byteAt s i = (b.toNat : Int) := by
  obtain ⟨k, rfl⟩ := Int.eq_ofNat_of_zero_le h.1
  have hk : k < s.data.toList.length := by rw [← Go.Lib.size_eq]; have := h.2; omega
  refine ⟨_, List.getElem_mem hk, ?_⟩
  unfold byteAt
  rw [Array.getD_eq_getD_getElem?, Int.toNat_natCast, ← Array.getElem?_toList, List.getElem?_eq_getElem hk]
  rfl
/-- A word and its place among the words. -/
structure WordAt (i : Int) (s : ByteArray) : Prop where
  word : Word s
  idx : (if s.size = 5 then byteAt s 3 else byteAt s 1) = 97 + i
def okW (i : Int) (s : ByteArray) : Bool := decide (1 ≤ s.size) && decide (s.size ≤ 6) && s.data.toList.all (fun b => decide (33 ≤ b.toNat) && decide (b.toNat ≤ 126)) && decide ((if s.size = 5 then byteAt s 3 else byteAt s 1) = 97 + i)
theorem okW_spec {i : Int} {s : ByteArray} (h : okW i s = true) : WordAt i s := by
  simp only [okW, Bool.and_eq_true, decide_eq_true_eq, List.all_eq_true] at h
  obtain ⟨⟨⟨a, b⟩, c⟩, d⟩ := h
  refine ⟨⟨a, b, fun j hj => ?_⟩, d⟩
  obtain ⟨x, hx, e⟩ := byteAt_mem hj
  have := c x hx
  omega
theorem word_dec : ((List.range 26).all fun a => (List.range 10).all fun i => okW i (strOf [97 + (a : Int), 97 + (i : Int), 97]) && okW i ((⟨#[109, 46]⟩ : ByteArray) ++ strOf [97 + (a : Int), 97 + (i : Int), 97]) &&
    (List.range 10).all fun d => okW i (strOf [97 + (a : Int), 97 + (i : Int), 97] ++ (((⟨#[91]⟩ : ByteArray) ++ strOf [48 + (d : Int)]) ++ (⟨#[93]⟩ : ByteArray)))) = true := by decide +kernel
theorem word_ok {a i : Int} (ha : 0 ≤ a ∧ a < 26) (hi : 0 ≤ i ∧ i < 10) : WordAt i (strOf [97 + a, 97 + i, 97]) ∧ WordAt i ((⟨#[109, 46]⟩ : ByteArray) ++ strOf [97 + a, 97 + i, 97]) ∧
    ∀ d : Int, (0 ≤ d ∧ d < 10) → WordAt i (strOf [97 + a, 97 + i, 97] ++ (((⟨#[91]⟩ : ByteArray) ++ strOf [48 + d]) ++ (⟨#[93]⟩ : ByteArray))) := by
  obtain ⟨a, rfl⟩ := Int.eq_ofNat_of_zero_le ha.1
  obtain ⟨i, rfl⟩ := Int.eq_ofNat_of_zero_le hi.1
  have h1 := List.all_eq_true.1 (List.all_eq_true.1 word_dec a (List.mem_range.2 (by omega))) i (List.mem_range.2 (by omega))
  rw [Bool.and_eq_true, Bool.and_eq_true] at h1
  refine ⟨okW_spec h1.1.1, okW_spec h1.1.2, fun d hd => ?_⟩
  obtain ⟨d, rfl⟩ := Int.eq_ofNat_of_zero_le hd.1
  exact okW_spec (List.all_eq_true.1 h1.2 d (List.mem_range.2 (by omega)))
theorem WordAt.apart {i j : Int} {s t : ByteArray} (h : WordAt i s) (k : WordAt j t) (hij : i ≠ j) : s ≠ t := by
  rintro rfl
  have := h.idx.symm.trans k.idx
  omega
theorem sz3 (a b c : Int) : (strOf [a, b, c]).size = 3 := rfl
theorem sz1 (a : Int) : (strOf [a]).size = 1 := rfl
theorem Words_ok {L : List Int} (hL : Strm L) {k n : Int} (hk : Few (k + 1000)) (hk0 : 0 ≤ k) (hn : 0 ≤ n ∧ n ≤ 10) : Ok (P_maskmake_Stream_Words (T_maskmake_Stream.mk L k) n) (fun r => ((r.1.length : Int) = n ∧ All (fun i s => WordAt i s) r.1) ∧ k ≤ r.2 ∧ r.2 ≤ k + 30) := by
  unfold P_maskmake_Stream_Words
  refine ok_bd (R := fun r => ((r.1.length : Int) = n ∧ All (fun i s => WordAt i s) r.1) ∧ k ≤ r.2 ∧ r.2 ≤ k + 30) ?_ fun r hr => ok_some hr
  refine ok_lp (fun s => (0 ≤ s.2.1 ∧ s.2.1 ≤ n) ∧ ((s.1.length : Int) = s.2.1 ∧ All (fun i s => WordAt i s) s.1) ∧ k ≤ s.2.2 ∧ s.2.2 ≤ k + 3 * s.2.1) (fun s => (n - s.2.1).toNat) ⟨⟨by simp, by simp only; omega⟩, ⟨by simp, All.nil⟩, by simp only; omega, by simp only; omega⟩ (by simp only; omega) ?_
  rintro ⟨xs, y, q⟩ ⟨⟨y0, y1⟩, ⟨y2, y3⟩, y4, y5⟩
  simp only at y0 y1 y2 y3 y4 y5
  unfold P_maskmake_Stream_Words_L3
  dsimp only
  refine ok_ite (fun hlt => ?_) fun hge => ok_some ⟨⟨by simp only; omega, y3⟩, by simp only; omega, by simp only; omega⟩
  refine ok_bd (hL.next (by omega) (by omega)) ?_
  rintro ⟨a, q1⟩ ⟨a0, a1, -, rfl⟩
  have a1 := a1 (by omega)
  simp only at a0 a1
  have t1 : Int.tmod y 26 = y := Int.tmod_eq_of_lt y0 (by omega)
  have t2 : Int.tdiv y 26 = 0 := Int.tdiv_eq_zero_of_lt y0 (by omega)
  refine ok_ar (by omega) (ok_lv (ok_ck (by omega) (ok_lv ?_)))
  rw [t1]
  refine ok_ar (by omega) (ok_lv (ok_ck (by omega) ?_))
  rw [t2]
  refine ok_ar (by omega) (ok_ck (by omega) (ok_lv ?_))
  rw [show Int.tmod 0 26 = 0 from rfl]
  refine ok_ar (by omega) (ok_lv ?_)
  rw [show ((97 : Int) + a) % 256 = 97 + a by omega, show ((97 : Int) + y) % 256 = 97 + y by omega, show ((97 : Int) + 0) % 256 = 97 by decide]
  obtain ⟨w1, w2, w3⟩ := word_ok (a := a) (i := y) ⟨a0, a1⟩ ⟨y0, by omega⟩
  refine ok_lv (ok_bd (hL.next (by simp only; omega) (by omega)) ?_)
  rintro ⟨c, q2⟩ ⟨c0, c1, -, rfl⟩
  simp only at c0 c1
  refine ok_bd (R := fun r => WordAt y r.1 ∧ q ≤ r.2 ∧ r.2 ≤ q + 3) ?_ ?_
  · refine ok_ite (fun _ => ?_) fun _ => ?_
    · refine ok_bd (hL.next (by simp only; omega) (by omega)) ?_
      rintro ⟨d, q3⟩ ⟨d0, d1, -, rfl⟩
      have d1 := d1 (by omega)
      simp only at d0 d1
      refine ok_ar (by omega) (ok_lv (ok_lv ?_))
      rw [show ((48 : Int) + d) % 256 = 48 + d by omega]
      have hz := sz1 (48 + d)
      have hz3 := sz3 (97 + a) (97 + y) 97
      refine ok_ck (by simp only [ByteArray.size_append, sz_lit, List.size_toArray, List.length_cons, List.length_nil]; omega) (ok_ck (by simp only [ByteArray.size_append, sz_lit, List.size_toArray, List.length_cons, List.length_nil]; omega) (ok_ck (by simp only [ByteArray.size_append, sz_lit, List.size_toArray, List.length_cons, List.length_nil]; omega) (ok_some ⟨w3 d ⟨d0, d1⟩, by simp only; omega, by simp only; omega⟩)))
    · refine ok_bd (R := fun r => WordAt y r) (ok_ite (fun _ => ?_) fun _ => ok_some w1) ?_
      · have hz3 := sz3 (97 + a) (97 + y) 97
        exact ok_ck (by simp only [ByteArray.size_append, sz_lit, List.size_toArray, List.length_cons, List.length_nil]; omega) (ok_some w2)
      intro s hs
      exact ok_some ⟨hs, by simp only; omega, by simp only; omega⟩
  rintro ⟨s, q3⟩ ⟨hs, q4, q5⟩
  simp only at hs q4 q5
  refine ok_lv (ok_ck (by simp only [apOk, List.length_append, List.length_singleton]; omega) (ok_ar (by omega) (ok_some ⟨⟨⟨by simp only; omega, by simp only; omega⟩, ⟨by simp only [List.length_append, List.length_singleton]; omega, y3.snoc (by rw [y2]; exact hs)⟩, by simp only; omega, by simp only; omega⟩, by simp only; omega⟩)))
theorem net_ok {L : List Int} (hL : Strm L) {k m : Int} (hk : Few (k + 5)) (hk0 : 0 ≤ k) (hm : 2 ≤ m ∧ m ≤ 1000) : Ok (P_maskmake_Stream_Netlist_1 m (T_maskmake_Stream.mk L k)) (fun r => k ≤ r.2 ∧ r.2 ≤ k + 2) := by
  unfold P_maskmake_Stream_Netlist_1
  refine ok_bd (hL.next (by omega) (by omega)) ?_
  rintro ⟨a, q1⟩ ⟨a0, a1, -, rfl⟩
  refine ok_ite (fun _ => ok_ar (by omega) (ok_lv (ok_bd (hL.next (by simp only; omega) (by omega)) ?_))) fun _ => ok_bd (hL.next (by simp only; omega) (by omega)) ?_
  · rintro ⟨b, q2⟩ ⟨b0, b1, b2, rfl⟩
    simp only at b0 b1 b2
    have : b < 1000 := by
      by_cases e : 1 ≤ min m 5
      · have := b1 e; omega
      · have := b2 (by omega); omega
    exact ok_ar (by omega) (ok_some ⟨by simp only; omega, by simp only; omega⟩)
  · rintro ⟨b, q2⟩ ⟨-, -, -, rfl⟩
    exact ok_some ⟨by simp only; omega, by simp only; omega⟩
theorem word64_ok {L : List Int} (hL : Strm L) {k : Int} (hk : Few (k + 5)) (hk0 : 0 ≤ k) : Ok (P_maskmake_Stream_word (T_maskmake_Stream.mk L k)) (fun r => r.2 = k + 3) := by
  unfold P_maskmake_Stream_word
  refine ok_bd (hL.next (by omega) (by omega)) ?_
  rintro ⟨a, q1⟩ ⟨-, -, -, rfl⟩
  refine ok_lv (ok_bd (hL.next (by simp only; omega) (by omega)) ?_)
  rintro ⟨a, q1⟩ ⟨-, -, -, rfl⟩
  refine ok_lv (ok_ck (by omega) (ok_lv (ok_lv (ok_bd (hL.next (by simp only; omega) (by omega)) ?_))))
  rintro ⟨a, q1⟩ ⟨-, -, -, rfl⟩
  exact ok_lv (ok_ck (by omega) (ok_lv (ok_lv (ok_some (by simp only; omega)))))
theorem shl1 : ((List.range 7).all fun n => decide (0 ≤ shl .i64 1 (n : Int))) = true := by decide +kernel
theorem mask_ok {w : Int} (h : 0 ≤ w) : Ok (P_maskmake_mask w) (fun _ => True) := by
  unfold P_maskmake_mask
  exact ok_ite (fun _ => ok_some trivial) fun _ => ok_ck h (ok_lv (ok_lv (ok_some trivial)))
theorem pick9_ok {L : List Int} (hL : Strm L) {k : Int} (hk : Few k) : Ok (P_maskmake_Stream_Pick (T_maskmake_Stream.mk L k) ([0, 1, 2, 2, 3, 3, 4, 5, 6] : List Int)) (fun r => (0 ≤ r.1 ∧ r.1 ≤ 6) ∧ r.2 = k + 1) := by
  unfold P_maskmake_Stream_Pick
  refine ok_bd (hL.next hk (by simp)) ?_
  rintro ⟨i, k2⟩ ⟨i0, i1, -, rfl⟩
  have i1 := i1 (by simp)
  simp only at i0 i1
  refine ok_ck ⟨i0, i1⟩ (ok_lv (ok_some ⟨?_, rfl⟩))
  have hm := gt_mem (xs := ([0, 1, 2, 2, 3, 3, 4, 5, 6] : List Int)) ⟨i0, i1⟩
  simp only [List.mem_cons, List.not_mem_nil, or_false] at hm
  simp only
  omega
/-- A netlist's names. -/
structure NetW (n : T_api_Netlist) (ins flops outs : Int) : Prop where
  inL : (n.In.length : Int) = ins
  outL : (n.Out.length : Int) = outs
  flopL : (n.Flops.length : Int) = flops
  inW : All (fun i s => WordAt i s) n.In
  outW : All (fun i s => WordAt i s) n.Out
  flW : All (fun i f => Word f.Name) n.Flops
theorem Netlist_ok {L : List Int} (hL : Strm L) {k ins flops gates outs : Int} (hk : Few (k + 5000)) (hk0 : 0 ≤ k) (hi : 1 ≤ ins ∧ ins ≤ 5) (hf : 0 ≤ flops ∧ flops ≤ 4) (hg : 0 ≤ gates ∧ gates ≤ 4) (ho : 1 ≤ outs ∧ outs ≤ 5) :
    Ok (P_maskmake_Stream_Netlist (T_maskmake_Stream.mk L k) ins flops gates outs) (fun r => NetW r.1 ins flops outs ∧ k ≤ r.2 ∧ r.2 ≤ k + 1000) := by
  unfold P_maskmake_Stream_Netlist
  refine ok_ar (by omega) (ok_bd (Words_ok hL (by omega) hk0 (by omega)) ?_)
  rintro ⟨ns, k1⟩ ⟨⟨n1, n2⟩, n3, n4⟩
  simp only at n1 n2 n3 n4
  refine ok_ck ⟨by omega, by omega, by simp only; omega⟩ (ok_lv (ok_bd (Words_ok hL (by simp only; omega) (by simp only; omega) (by omega)) ?_))
  rintro ⟨os, k2⟩ ⟨⟨o1, o2⟩, o3, o4⟩
  simp only at o1 o2 o3 o4
  refine ok_ar (by omega) (ok_ar (by omega) (ok_bd (R := fun r => k ≤ r.2 ∧ r.2 ≤ k + 60 + 100 * 4) ?_ ?_))
  · refine ok_lp (fun s => (0 ≤ s.1 ∧ s.1 ≤ gates) ∧ (s.2.1.length : Int) = s.1 ∧ k ≤ s.2.2 ∧ s.2.2 ≤ k + 60 + 100 * s.1) (fun s => (gates - s.1).toNat) ⟨⟨by simp, by simp only; omega⟩, by simp, by simp only; omega, by simp only; omega⟩ (by simp only; omega) ?_
    rintro ⟨y, gs, q⟩ ⟨⟨y0, y1⟩, y2, y3, y4⟩
    simp only at y0 y1 y2 y3 y4
    unfold P_maskmake_Stream_Netlist_L6
    dsimp only
    refine ok_ite (fun hlt => ?_) fun hge => ok_some ⟨by simp only; omega, by simp only; omega⟩
    refine ok_bd (pick9_ok hL (by omega)) ?_
    rintro ⟨m, q1⟩ ⟨hm, rfl⟩
    simp only at hm
    refine ok_bd (R := fun r => (r.1.length : Int) ≤ 6 ∧ q ≤ r.2 ∧ r.2 ≤ q + 50) ?_ ?_
    · refine ok_lp (fun s => (0 ≤ s.1 ∧ s.1 ≤ m) ∧ (s.2.1.length : Int) = s.1 ∧ q ≤ s.2.2 ∧ s.2.2 ≤ q + 1 + 2 * s.1) (fun s => (m - s.1).toNat) ⟨⟨by simp, by simp only; omega⟩, by simp, by simp only; omega, by simp only; omega⟩ (by simp only; omega) ?_
      rintro ⟨z, is, p⟩ ⟨⟨z0, z1⟩, z2, z3, z4⟩
      simp only at z0 z1 z2 z3 z4
      unfold P_maskmake_Stream_Netlist_L10
      dsimp only
      refine ok_ite (fun hlt => ?_) fun hge => ok_some ⟨by simp only; omega, by simp only; omega, by simp only; omega⟩
      refine ok_ar (by omega) (ok_bd (net_ok hL (by omega) (by omega) (by omega)) ?_)
      rintro ⟨x, p2⟩ ⟨p3, p4⟩
      simp only at p3 p4
      exact ok_lv (ok_ck (by simp only [apOk, List.length_append, List.length_singleton]; omega) (ok_ar (by omega) (ok_some ⟨⟨⟨by simp only; omega, by simp only; omega⟩, by simp only [List.length_append, List.length_singleton]; omega, by simp only; omega, by simp only; omega⟩, by simp only; omega⟩)))
    rintro ⟨is, p⟩ ⟨p1, p2, p3⟩
    simp only at p1 p2 p3
    refine ok_bd (word64_ok hL (by omega) (by omega)) ?_
    rintro ⟨x, p4⟩ hp4
    simp only at hp4
    subst hp4
    refine ok_ck (by simp only; omega) (ok_lv (ok_bd (mask_ok ?_) ?_))
    · have := List.all_eq_true.1 shl1 is.length (List.mem_range.2 (by omega))
      simpa using this
    intro mk _
    exact ok_lv (ok_lv (ok_ck (by simp only [apOk, List.length_append, List.length_singleton]; omega) (ok_ar (by omega) (ok_some ⟨⟨⟨by simp only; omega, by simp only; omega⟩, by simp only [List.length_append, List.length_singleton]; omega, by simp only; omega, by simp only; omega⟩, by simp only; omega⟩))))
  rintro ⟨gs, k3⟩ ⟨g1, g2⟩
  simp only at g1 g2
  refine ok_bd (R := fun r => ((r.1.length : Int) = flops ∧ All (fun _ f => Word f.Name) r.1) ∧ k3 ≤ r.2 ∧ r.2 ≤ k3 + 10 * 4) ?_ ?_
  · refine ok_lp (fun s => (0 ≤ s.1 ∧ s.1 ≤ flops) ∧ ((s.2.1.length : Int) = s.1 ∧ All (fun _ f => Word f.Name) s.2.1) ∧ k3 ≤ s.2.2 ∧ s.2.2 ≤ k3 + 10 * s.1) (fun s => (flops - s.1).toNat) ⟨⟨by simp, by simp only; omega⟩, ⟨by simp, All.nil⟩, by simp only; omega, by simp only; omega⟩ (by simp only; omega) ?_
    rintro ⟨y, fs, q⟩ ⟨⟨y0, y1⟩, ⟨y2, y3⟩, y4, y5⟩
    simp only at y0 y1 y2 y3 y4 y5
    unfold P_maskmake_Stream_Netlist_L17
    dsimp only
    refine ok_ite (fun hlt => ?_) fun hge => ok_some ⟨⟨by simp only; omega, y3⟩, by simp only; omega, by simp only; omega⟩
    have hw := (n2 (ins + y) ⟨by omega, by omega⟩).word
    refine ok_ar (by omega) (ok_ck ⟨by omega, by omega⟩ (ok_lv (ok_ar (by omega) (ok_bd (net_ok hL (by omega) (by omega) (by omega)) ?_))))
    rintro ⟨x, p⟩ ⟨p1, p2⟩
    simp only at p1 p2
    refine ok_bd (hL.next (by simp only; omega) (by omega)) ?_
    rintro ⟨a, p3⟩ ⟨-, -, -, rfl⟩
    refine ok_bd (hL.next (by simp only; omega) (by omega)) ?_
    rintro ⟨b, p4⟩ ⟨-, -, -, rfl⟩
    refine ok_bd (R := fun r => q ≤ r.2 ∧ r.2 ≤ q + 8) (ok_ite (fun _ => ok_ar (by omega) (ok_bd (net_ok hL (by simp only; omega) (by simp only; omega) (by omega)) ?_)) fun _ => ok_some ⟨by simp only; omega, by simp only; omega⟩) ?_
    · rintro ⟨e, p5⟩ ⟨p6, p7⟩
      simp only at p6 p7
      exact ok_some ⟨by simp only; omega, by simp only; omega⟩
    rintro ⟨e, p5⟩ ⟨p6, p7⟩
    simp only at p6 p7
    exact ok_lv (ok_ck (by simp only [apOk, List.length_append, List.length_singleton]; omega) (ok_ar (by omega) (ok_some ⟨⟨⟨by simp only; omega, by simp only; omega⟩, ⟨by simp only [List.length_append, List.length_singleton]; omega, y3.snoc hw⟩, by simp only; omega, by simp only; omega⟩, by simp only; omega⟩)))
  rintro ⟨fs, k4⟩ ⟨⟨f1, f2⟩, f3, f4⟩
  simp only at f1 f2 f3 f4
  refine ok_bd (R := fun r => k4 ≤ r.2 ∧ r.2 ≤ k4 + 2 * 5) ?_ ?_
  · refine ok_lp (fun s => (0 ≤ s.1 ∧ s.1 ≤ outs) ∧ (s.2.1.length : Int) = s.1 ∧ k4 ≤ s.2.2 ∧ s.2.2 ≤ k4 + 2 * s.1) (fun s => (outs - s.1).toNat) ⟨⟨by simp, by simp only; omega⟩, by simp, by simp only; omega, by simp only; omega⟩ (by simp only; omega) ?_
    rintro ⟨y, ts, q⟩ ⟨⟨y0, y1⟩, y2, y3, y4⟩
    simp only at y0 y1 y2 y3 y4
    unfold P_maskmake_Stream_Netlist_L25
    dsimp only
    refine ok_ite (fun hlt => ?_) fun hge => ok_some ⟨by simp only; omega, by simp only; omega⟩
    refine ok_ar (by omega) (ok_bd (net_ok hL (by omega) (by omega) (by omega)) ?_)
    rintro ⟨x, p⟩ ⟨p1, p2⟩
    simp only at p1 p2
    exact ok_lv (ok_ck (by simp only [apOk, List.length_append, List.length_singleton]; omega) (ok_ar (by omega) (ok_some ⟨⟨⟨by simp only; omega, by simp only; omega⟩, by simp only [List.length_append, List.length_singleton]; omega, by simp only; omega, by simp only; omega⟩, by simp only; omega⟩)))
  rintro ⟨ts, k5⟩ ⟨t1, t2⟩
  simp only at t1 t2
  have hsl : ((sub ns 0 ins).length : Int) = ins := by simp [X.sub]; omega
  refine ok_some ⟨⟨hsl, o1, f1, fun i hi => ?_, o2, f2⟩, by simp only; omega, by simp only; omega⟩
  have hi2 := hi.2
  simp only at hi2
  have e : gt (sub ns 0 ins) i = gt ns i := by
    simp only [X.sub, gt, List.getD_eq_getElem?_getD]
    rw [List.getElem?_take, if_pos (by omega)]
    simp
  simp only [e]
  exact n2 i ⟨hi.1, by omega⟩
end Go.Proofs.YtkenpbnpemjbhaaDoor.X
