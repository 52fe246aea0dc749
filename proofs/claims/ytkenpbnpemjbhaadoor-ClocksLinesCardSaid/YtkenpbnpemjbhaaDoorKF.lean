/- Reading the text of limits. Plain. -/
import Derived.Test.YtkenpbnpemjbhaaDoorKE
namespace Go.Proofs.YtkenpbnpemjbhaaDoor.X
open Go Go.RowKit
set_option linter.unusedVariables false
set_option linter.unusedSimpArgs false
set_option linter.unusedSectionVars false
theorem gt_map {α β : Type} [Inhabited α] [Inhabited β] (f : α → β) {xs : List α} {y : Int} (h : inb y xs.length) : gt (xs.map f) y = f (gt xs y) := by
  obtain ⟨k, rfl⟩ := Int.eq_ofNat_of_zero_le h.1
  have hk : k < xs.length := by have := h.2; omega
  simp [gt, List.getD_eq_getElem?_getD, hk]
theorem numbers_ok {ns : List Int} (h : All (fun _ n => 0 ≤ n ∧ n ≤ 200) ns) (hl : ns.length ≤ 10) : Ok (P_clocks_numbers (ns.map itoa)) (fun r => r = (ns, true)) := by
  unfold P_clocks_numbers
  refine ok_bs1 (R := fun r => r = ns) ?_ ?_
  · refine ok_lp (fun s => (0 ≤ s.2 ∧ s.2 ≤ ns.length) ∧ s.1 = ns.take s.2.toNat) (fun s => ((ns.length : Int) - s.2).toNat) ⟨⟨by simp, by simp only; omega⟩, by simp⟩ (by simp only; omega) ?_
    rintro ⟨out, y⟩ ⟨⟨y0, y1⟩, y2⟩
    simp only at y0 y1 y2
    subst y2
    unfold P_clocks_numbers_L3
    dsimp only
    rw [List.length_map]
    refine ok_ite (fun hlt => ?_) fun hge => ok_some ⟨_, rfl, by rw [show y.toNat = ns.length by omega, List.take_length]⟩
    have hn := h y ⟨y0, hlt⟩
    refine ok_ck ⟨y0, hlt⟩ (ok_lv ?_)
    rw [gt_map itoa ⟨y0, hlt⟩]
    refine ok_bd (atoiP_ok hn.1 hn.2) ?_
    rintro _ rfl
    refine ok_bd (itoaP_ok hn.1 hn.2) ?_
    rintro _ rfl
    refine ok_f (by simp) (ok_lv (ok_ck (by simp only [apOk, List.length_append, List.length_singleton, List.length_take]; omega) (ok_ar (by omega) (ok_some ⟨⟨⟨by simp only; omega, by simp only; omega⟩, ?_⟩, by simp only; omega⟩))))
    simp only
    rw [take_snoc ⟨y0, hlt⟩]
  rintro _ rfl
  exact ok_some rfl
theorem All.one {α : Type} [Inhabited α] {p : Int → α → Prop} {x : α} (h : p 0 x) : All p [x] := All.snoc (xs := []) All.nil h
theorem All.two {α : Type} [Inhabited α] {p : Int → α → Prop} {x y : α} (h : p 0 x) (k : p 1 y) : All p [x, y] := All.snoc (xs := [x]) (All.one h) k
/-- A name in an exception: none, or a word. -/
def NoW (s : ByteArray) : Prop := s = (⟨#[]⟩ : ByteArray) ∨ Word s
theorem eq_size (s : ByteArray) : ((⟨#[61]⟩ : ByteArray) ++ s).size = 1 + s.size := by rw [ByteArray.size_append]; rfl
theorem cut0 (s : ByteArray) : subS ((⟨#[61]⟩ : ByteArray) ++ s) 0 ((⟨#[61]⟩ : ByteArray).size : Int) = ⟨#[61]⟩ := ba_ext (by
  simp only [subS]
  rw [Go.Lib.extract_data]
  simp [ByteArray.data_append, sz_lit])
theorem cut1 (s : ByteArray) : subS ((⟨#[61]⟩ : ByteArray) ++ s) ((⟨#[61]⟩ : ByteArray).size : Int) (((⟨#[61]⟩ : ByteArray) ++ s).size : Int) = s := ba_ext (by
  simp only [subS, Int.toNat_natCast]
  rw [Go.Lib.extract_to_end]
  simp [ByteArray.data_append, sz_lit])
theorem place_ok {s : ByteArray} (h : NoW s) : Ok (P_clocks_place (stW s)) (fun r => r = (s, true)) := by
  unfold P_clocks_place stW
  by_cases e : s = (⟨#[]⟩ : ByteArray)
  · rw [if_pos e]
    exact ok_t rfl (ok_some (by rw [e]))
  rw [if_neg e]
  have hw := h.resolve_left e
  have hz := eq_size s
  refine ok_f ?_ (ok_bd (R := fun r => r = (s, true)) ?_ ?_)
  · intro q
    have q1 := congrArg ByteArray.size q
    have q2 := hw.pos
    have q3 : (⟨#[42]⟩ : ByteArray).size = 1 := rfl
    omega
  · unfold P_strings_CutPrefix
    refine ok_bd (R := fun r => r = (s, true)) ?_ ?_
    · unfold P_internal_stringslite_CutPrefix
      refine ok_bd (R := fun r => r = true) ?_ ?_
      · unfold P_internal_stringslite_HasPrefix
        refine ok_ck (fun _ => ⟨by omega, by omega, by rw [hz]; simp only [sz_lit, List.size_toArray, List.length_cons, List.length_nil]; omega⟩) (ok_lv (ok_lv (ok_some ?_)))
        rw [cut0, decide_eq_true (rfl : (⟨#[61]⟩ : ByteArray) = ⟨#[61]⟩), Bool.and_true, decide_eq_true_eq, hz]
        simp only [sz_lit, List.size_toArray, List.length_cons, List.length_nil]
        omega
      rintro _ rfl
      refine ok_f (by simp) (ok_ck ⟨by omega, by rw [hz]; simp only [sz_lit, List.size_toArray, List.length_cons, List.length_nil]; omega, by omega⟩ (ok_lv (ok_some ?_)))
      rw [cut1]
    rintro _ rfl
    exact ok_some rfl
  rintro _ rfl
  refine ok_lv (ok_some ?_)
  simp [e]
/-- What is read so far. -/
abbrev St4 := Int × List T_clocks_Input × List T_clocks_Output × List T_clocks_Path
def Ln.add : Ln → St4 → St4
  | .per n, s => (n, s.2.1, s.2.2.1, s.2.2.2)
  | .inp x, s => (s.1, s.2.1 ++ [x], s.2.2.1, s.2.2.2)
  | .out x, s => (s.1, s.2.1, s.2.2.1 ++ [x], s.2.2.2)
  | .pth x, s => (s.1, s.2.1, s.2.2.1, s.2.2.2 ++ [x])
def Ln.Good : Ln → Prop
  | .per n => 1 ≤ n ∧ n ≤ 200
  | .inp x => Word x.Name ∧ (0 ≤ x.At.Lo ∧ x.At.Lo ≤ 200) ∧ (0 ≤ x.At.Hi ∧ x.At.Hi ≤ 200)
  | .out x => Word x.Name ∧ 0 ≤ x.Before ∧ x.Before ≤ 200
  | .pth x => NoW x.From ∧ NoW x.To ∧ 0 ≤ x.Cycles ∧ x.Cycles ≤ 200
theorem NoW.free {s : ByteArray} (h : NoW s) {c : UInt8} (hc : c.toNat < 33) (h1 : Free c (⟨#[42]⟩ : ByteArray)) (h2 : Free c (⟨#[61]⟩ : ByteArray)) : Free c (stW s) := by
  unfold stW
  by_cases e : s = (⟨#[]⟩ : ByteArray)
  · rw [if_pos e]; exact h1
  · rw [if_neg e]; exact h2.app ((h.resolve_left e).free hc)
theorem free_lit : Free 32 (⟨#[112, 101, 114, 105, 111, 100]⟩ : ByteArray) ∧ Free 32 (⟨#[105, 110, 112, 117, 116]⟩ : ByteArray) ∧ Free 32 (⟨#[111, 117, 116, 112, 117, 116]⟩ : ByteArray) ∧ Free 32 (⟨#[102, 97, 108, 115, 101]⟩ : ByteArray) ∧ Free 32 (⟨#[109, 117, 108, 116, 105]⟩ : ByteArray) ∧ Free 32 (⟨#[42]⟩ : ByteArray) ∧ Free 32 (⟨#[61]⟩ : ByteArray) := by
  refine ⟨?_, ?_, ?_, ?_, ?_, ?_, ?_⟩ <;> simp [Free]
theorem free_lit10 : Free 10 (⟨#[112, 101, 114, 105, 111, 100]⟩ : ByteArray) ∧ Free 10 (⟨#[105, 110, 112, 117, 116]⟩ : ByteArray) ∧ Free 10 (⟨#[111, 117, 116, 112, 117, 116]⟩ : ByteArray) ∧ Free 10 (⟨#[102, 97, 108, 115, 101]⟩ : ByteArray) ∧ Free 10 (⟨#[109, 117, 108, 116, 105]⟩ : ByteArray) ∧ Free 10 (⟨#[42]⟩ : ByteArray) ∧ Free 10 (⟨#[61]⟩ : ByteArray) ∧ Free 10 (⟨#[32]⟩ : ByteArray) := by
  refine ⟨?_, ?_, ?_, ?_, ?_, ?_, ?_, ?_⟩ <;> simp [Free]
theorem split2 {c : UInt8} {a b : ByteArray} (ha : Free c a) (hb : Free c b) : splitS (a ++ (⟨#[c]⟩ ++ b)) ⟨#[c]⟩ = [a, b] := by rw [splitS_at ha, splitS_free hb]
theorem split3 {c : UInt8} {a b d : ByteArray} (ha : Free c a) (hb : Free c b) (hd : Free c d) : splitS (a ++ (⟨#[c]⟩ ++ (b ++ (⟨#[c]⟩ ++ d)))) ⟨#[c]⟩ = [a, b, d] := by rw [splitS_at ha, split2 hb hd]
theorem split4 {c : UInt8} {a b d e : ByteArray} (ha : Free c a) (hb : Free c b) (hd : Free c d) (he : Free c e) : splitS (a ++ (⟨#[c]⟩ ++ (b ++ (⟨#[c]⟩ ++ (d ++ (⟨#[c]⟩ ++ e)))))) ⟨#[c]⟩ = [a, b, d, e] := by rw [splitS_at ha, split3 hb hd he]
theorem lit_ne : (⟨#[105, 110, 112, 117, 116]⟩ : ByteArray) ≠ ⟨#[112, 101, 114, 105, 111, 100]⟩ ∧ (⟨#[111, 117, 116, 112, 117, 116]⟩ : ByteArray) ≠ ⟨#[112, 101, 114, 105, 111, 100]⟩ ∧ (⟨#[111, 117, 116, 112, 117, 116]⟩ : ByteArray) ≠ ⟨#[105, 110, 112, 117, 116]⟩ ∧
    (⟨#[102, 97, 108, 115, 101]⟩ : ByteArray) ≠ ⟨#[112, 101, 114, 105, 111, 100]⟩ ∧ (⟨#[102, 97, 108, 115, 101]⟩ : ByteArray) ≠ ⟨#[105, 110, 112, 117, 116]⟩ ∧ (⟨#[102, 97, 108, 115, 101]⟩ : ByteArray) ≠ ⟨#[111, 117, 116, 112, 117, 116]⟩ ∧ (⟨#[102, 97, 108, 115, 101]⟩ : ByteArray) ≠ ⟨#[109, 117, 108, 116, 105]⟩ ∧
    (⟨#[109, 117, 108, 116, 105]⟩ : ByteArray) ≠ ⟨#[112, 101, 114, 105, 111, 100]⟩ ∧ (⟨#[109, 117, 108, 116, 105]⟩ : ByteArray) ≠ ⟨#[105, 110, 112, 117, 116]⟩ ∧ (⟨#[109, 117, 108, 116, 105]⟩ : ByteArray) ≠ ⟨#[111, 117, 116, 112, 117, 116]⟩ := by
  refine ⟨?_, ?_, ?_, ?_, ?_, ?_, ?_, ?_, ?_, ?_⟩ <;> decide +kernel
theorem read_ok {k : Ln} (hk : k.Good) {s : St4} (h1 : s.2.1.length ≤ 1000) (h2 : s.2.2.1.length ≤ 1000) (h3 : s.2.2.2.length ≤ 1000) (hp : ∀ n, k = .per n → s.1 = 0) :
    Ok (P_clocks_read_4 (T_clocks_Limits.mk s.1 s.2.1 s.2.2.1 s.2.2.2) (splitS k.text ⟨#[32]⟩)) (fun r => r = (true, k.add s)) := by
  obtain ⟨f1, f2, f3, f4, f5, f6, f7⟩ := free_lit
  obtain ⟨g1, g2, g3, g4, g5, g6, g7, g8, g9, g10⟩ := lit_ne
  cases k with
  | per n =>
    obtain ⟨a, b⟩ := hk
    have hz := hp n rfl
    rw [Ln.text, split2 f1 (num_ok (by omega) b).2.2.1]
    unfold P_clocks_read_4
    refine ok_ck ⟨by omega, by simp⟩ (ok_lv (ok_lv (ok_lv (ok_t ?_ (ok_ck ⟨by omega, by simp, by simp⟩ (ok_lv ?_))))))
    · simp [gt, hz]
    refine ok_bd (numbers_ok (ns := [n]) (All.one ⟨by omega, b⟩) (by simp)) ?_
    rintro _ rfl
    refine ok_bd (R := fun r => r = n) (ok_t rfl (ok_ck ⟨by omega, by simp⟩ (ok_lv (ok_some rfl)))) ?_
    rintro r hr
    have hn : n ≠ 0 := by omega
    refine ok_ck (fun _ => ⟨by omega, by simp⟩) (ok_lv (ok_lv (ok_some ?_)))
    rw [hr]
    simp [Ln.add, gt, hn]
  | inp x =>
    obtain ⟨w, a, b⟩ := hk
    rw [Ln.text, split4 f2 (w.free (by decide)) (num_ok a.1 a.2).2.2.1 (num_ok b.1 b.2).2.2.1]
    unfold P_clocks_read_4
    refine ok_ck ⟨by omega, by simp⟩ (ok_lv (ok_lv (ok_lv (ok_f ?_ (ok_ck ⟨by omega, by simp⟩ (ok_lv (ok_lv (ok_t ?_ (ok_ck ⟨by omega, by simp, by simp⟩ (ok_lv ?_))))))))))
    · simp [gt, g1]
    · simp [gt]
    refine ok_bd (numbers_ok (ns := [x.At.Lo, x.At.Hi]) (All.two a b) (by simp)) ?_
    rintro _ rfl
    refine ok_bd (R := fun r => r = s.2.1 ++ [x]) (ok_t rfl (ok_ck ⟨by omega, by simp⟩ (ok_lv (ok_ck ⟨by omega, by simp⟩ (ok_lv (ok_ck ⟨by omega, by simp⟩ (ok_lv (ok_lv (ok_ck (by simp only [apOk, List.length_append, List.length_singleton]; omega) (ok_some rfl)))))))))) ?_
    rintro r hr
    exact ok_some (by rw [hr]; rfl)
  | out x =>
    obtain ⟨w, a⟩ := hk
    rw [Ln.text, split3 f3 (w.free (by decide)) (num_ok a.1 a.2).2.2.1]
    unfold P_clocks_read_4
    refine ok_ck ⟨by omega, by simp⟩ (ok_lv (ok_lv (ok_lv (ok_f ?_ (ok_ck ⟨by omega, by simp⟩ (ok_lv (ok_lv (ok_f ?_ (ok_ck ⟨by omega, by simp⟩ (ok_lv (ok_lv (ok_t ?_ (ok_ck ⟨by omega, by simp, by simp⟩ (ok_lv ?_))))))))))))))
    · simp [gt, g2]
    · simp [gt, g3]
    · simp [gt]
    refine ok_bd (numbers_ok (ns := [x.Before]) (All.one a) (by simp)) ?_
    rintro _ rfl
    refine ok_bd (R := fun r => r = s.2.2.1 ++ [x]) (ok_t rfl (ok_ck ⟨by omega, by simp⟩ (ok_lv (ok_ck ⟨by omega, by simp⟩ (ok_lv (ok_lv (ok_ck (by simp only [apOk, List.length_append, List.length_singleton]; omega) (ok_some rfl)))))))) ?_
    rintro r hr
    exact ok_some (by rw [hr]; rfl)
  | pth x =>
    obtain ⟨w1, w2, a⟩ := hk
    have p1 := w1.free (c := 32) (by decide) f6 f7
    have p2 := w2.free (c := 32) (by decide) f6 f7
    by_cases hc : x.Cycles = 0
    · rw [Ln.text, if_pos hc, split3 f4 p1 p2]
      unfold P_clocks_read_4
      refine ok_ck ⟨by omega, by simp⟩ (ok_lv (ok_lv (ok_lv (ok_f ?_ (ok_ck ⟨by omega, by simp⟩ (ok_lv (ok_lv (ok_f ?_ (ok_ck ⟨by omega, by simp⟩ (ok_lv (ok_lv (ok_f ?_ (ok_ck ⟨by omega, by simp⟩ (ok_lv (ok_lv (ok_ck (fun _ => ⟨by omega, by simp⟩) (ok_lv (ok_lv (ok_lv (ok_t ?_ (ok_ck ⟨by omega, by simp⟩ (ok_lv ?_))))))))))))))))))))))
      · simp [gt, g4]
      · simp [gt, g5]
      · simp [gt, g6]
      · simp [gt, g7]
      refine ok_bs1 (R := fun r => r = x.Cycles) (ok_f (by simp [gt, g7]) (ok_some ⟨_, rfl, hc.symm⟩)) ?_
      rintro _ rfl
      refine ok_ar (by simp; omega) (ok_ck ⟨by simp, by simp⟩ (ok_lv (ok_bd (place_ok w1) ?_)))
      rintro _ rfl
      refine ok_ar (by simp; omega) (ok_ck ⟨by simp, by simp⟩ (ok_lv (ok_bd (place_ok w2) ?_)))
      rintro _ rfl
      exact ok_lv (ok_ck (by simp only [apOk, List.length_append, List.length_singleton]; omega) (ok_lv (ok_some rfl)))
    · rw [Ln.text, if_neg hc, split4 f5 (num_ok a.1 a.2).2.2.1 p1 p2]
      unfold P_clocks_read_4
      refine ok_ck ⟨by omega, by simp⟩ (ok_lv (ok_lv (ok_lv (ok_f ?_ (ok_ck ⟨by omega, by simp⟩ (ok_lv (ok_lv (ok_f ?_ (ok_ck ⟨by omega, by simp⟩ (ok_lv (ok_lv (ok_f ?_ (ok_ck ⟨by omega, by simp⟩ (ok_lv (ok_lv (ok_ck (fun _ => ⟨by omega, by simp⟩) (ok_lv (ok_lv (ok_lv (ok_t ?_ (ok_ck ⟨by omega, by simp⟩ (ok_lv ?_))))))))))))))))))))))
      · simp [gt, g8]
      · simp [gt, g9]
      · simp [gt, g10]
      · simp [gt]
      refine ok_bs1 (R := fun r => r = x.Cycles) (ok_t rfl (ok_ck ⟨by omega, by omega, by simp⟩ (ok_lv (ok_bd (numbers_ok (ns := [x.Cycles]) (All.one a) (by simp)) ?_)))) ?_
      · rintro _ rfl
        exact ok_ck (fun _ => ⟨by omega, by simp⟩) (ok_lv (ok_lv (ok_f (by simp [gt, hc]) (ok_ck ⟨by omega, by simp⟩ (ok_lv (ok_some ⟨_, rfl, rfl⟩))))))
      rintro _ rfl
      refine ok_ar (by simp; omega) (ok_ck ⟨by simp, by simp⟩ (ok_lv (ok_bd (place_ok w1) ?_)))
      rintro _ rfl
      refine ok_ar (by simp; omega) (ok_ck ⟨by simp, by simp⟩ (ok_lv (ok_bd (place_ok w2) ?_)))
      rintro _ rfl
      exact ok_lv (ok_ck (by simp only [apOk, List.length_append, List.length_singleton]; omega) (ok_lv (ok_some rfl)))
end Go.Proofs.YtkenpbnpemjbhaaDoor.X
