/- Reading lines some of which are empty, and a line that is none. Plain. -/
import Derived.Test.YtkenpbnpemjbhaaDoorKG
namespace Go.Proofs.YtkenpbnpemjbhaaDoor.X
open Go Go.RowKit
set_option linter.unusedVariables false
set_option linter.unusedSimpArgs false
set_option linter.unusedSectionVars false
/-- A line, or an empty one. -/
def addO : Option Ln → St4 → St4
  | none, s => s
  | some k, s => k.add s
def oAll (ks : List (Option Ln)) (s : St4) : St4 := ks.foldl (fun s k => addO k s) s
def oText : Option Ln → ByteArray
  | none => ⟨#[]⟩
  | some k => k.text
abbrev st0 : St4 := (0, [], [], [])
theorem oAll_app (a b : List (Option Ln)) (s : St4) : oAll (a ++ b) s = oAll b (oAll a s) := List.foldl_append
theorem oAll_some (ks : List Ln) (s : St4) : oAll (ks.map some) s = addAll ks s := by
  unfold oAll addAll
  rw [List.foldl_map]; rfl
theorem oAll_len : ∀ (ks : List (Option Ln)) (s : St4), (oAll ks s).2.1.length ≤ s.2.1.length + ks.length ∧ (oAll ks s).2.2.1.length ≤ s.2.2.1.length + ks.length ∧ (oAll ks s).2.2.2.length ≤ s.2.2.2.length + ks.length
  | [], s => by simp [oAll]
  | k :: ks, s => by
    have h := oAll_len ks (addO k s)
    have e : oAll (k :: ks) s = oAll ks (addO k s) := rfl
    rw [e]
    have h2 : (addO k s).2.1.length ≤ s.2.1.length + 1 ∧ (addO k s).2.2.1.length ≤ s.2.2.1.length + 1 ∧ (addO k s).2.2.2.length ≤ s.2.2.2.length + 1 := by
      cases k with
      | none => simp [addO]
      | some k => cases k <;> simp [addO, Ln.add]
    simp only [List.length_cons]
    omega
theorem oAll_fst : ∀ (ks : List (Option Ln)) (s : St4), (∀ k ∈ ks, ∀ n, k ≠ some (.per n)) → (oAll ks s).1 = s.1
  | [], s, _ => rfl
  | k :: ks, s, h => by
    have e : oAll (k :: ks) s = oAll ks (addO k s) := rfl
    rw [e, oAll_fst ks _ fun q hq => h q (by simp [hq])]
    cases k with
    | none => rfl
    | some k =>
      cases k with
      | per n => exact absurd rfl (h _ (by simp) n)
      | inp x => rfl
      | out x => rfl
      | pth x => rfl
/-- One line is read. -/
theorem round_ok {ks : List (Option Ln)} {ts : List ByteArray} {y : Int} (hy : inb y ks.length) (hty : inb y ts.length) (ht : gt ts y = oText (gt ks y)) (hg : ∀ x, gt ks y = some x → x.Good) (hlen : ks.length ≤ 100) (hp : ∀ n, gt ks y = some (.per n) → (oAll (ks.take y.toNat) st0).1 = 0) :
    Ok (P_clocks_Read_L5 ts (y, oAll (ks.take y.toNat) st0)) (fun o => o = Sum.inl (y + 1, oAll (ks.take (y + 1).toNat) st0)) := by
  have hl := oAll_len (ks.take y.toNat) st0
  simp only [List.length_take, List.length_nil] at hl
  have hy1 := hy.2
  rw [take_snoc hy, oAll_app]
  generalize hs : oAll (ks.take y.toNat) st0 = s at hl hp ⊢
  obtain ⟨p1, I1, O1, T1⟩ := s
  unfold P_clocks_Read_L5
  dsimp only
  refine ok_t hty.2 (ok_bs1 (R := fun r => r = oAll [gt ks y] (p1, I1, O1, T1)) (ok_ck hty (ok_lv ?_)) ?_)
  · rw [ht]
    cases hk : gt ks y with
    | none => exact ok_t rfl (ok_some ⟨_, rfl, rfl⟩)
    | some x =>
      have hG := hg x hk
      have hz := text_size hG
      refine ok_f (text_ne _) (ok_bd (R := fun r => r = splitS x.text ⟨#[32]⟩) ?_ ?_)
      · unfold P_strings_Split
        exact ok_ck ⟨by simp only [oText]; omega, Nat.le_refl 1⟩ (ok_some rfl)
      rintro _ rfl
      refine ok_bd (read_ok (s := (p1, I1, O1, T1)) hG (by simp only at hl ⊢; omega) (by simp only at hl ⊢; omega) (by simp only at hl ⊢; omega) (fun n e => hp n (by rw [hk, e]))) ?_
      rintro _ rfl
      exact ok_f (by simp) (ok_some ⟨_, rfl, rfl⟩)
  · rintro ⟨p2, I2, O2, T2⟩ hr
    exact ok_ar (by omega) (ok_some (by rw [hr]))
/-- "period 7 8". -/
def bad : ByteArray := ⟨#[112, 101, 114, 105, 111, 100]⟩ ++ ((⟨#[32]⟩ : ByteArray) ++ ((⟨#[55]⟩ : ByteArray) ++ ((⟨#[32]⟩ : ByteArray) ++ (⟨#[56]⟩ : ByteArray))))
theorem bad_eq : (⟨#[112, 101, 114, 105, 111, 100, 32, 55, 32, 56]⟩ : ByteArray) = bad := by decide +kernel
theorem bad_free : Free 10 bad := by simp [bad, Free, ByteArray.data_append]
theorem bad_size : bad.size = 10 := rfl
theorem bad_split : splitS bad ⟨#[32]⟩ = [⟨#[112, 101, 114, 105, 111, 100]⟩, ⟨#[55]⟩, ⟨#[56]⟩] := split3 (by simp [Free]) (by simp [Free]) (by simp [Free])
theorem per_ne : (⟨#[112, 101, 114, 105, 111, 100]⟩ : ByteArray) ≠ ⟨#[105, 110, 112, 117, 116]⟩ ∧ (⟨#[112, 101, 114, 105, 111, 100]⟩ : ByteArray) ≠ ⟨#[111, 117, 116, 112, 117, 116]⟩ ∧ (⟨#[112, 101, 114, 105, 111, 100]⟩ : ByteArray) ≠ ⟨#[109, 117, 108, 116, 105]⟩ ∧ (⟨#[112, 101, 114, 105, 111, 100]⟩ : ByteArray) ≠ ⟨#[102, 97, 108, 115, 101]⟩ := by
  refine ⟨?_, ?_, ?_, ?_⟩ <;> decide +kernel
theorem read_bad (s : St4) : Ok (P_clocks_read_4 (T_clocks_Limits.mk s.1 s.2.1 s.2.2.1 s.2.2.2) [⟨#[112, 101, 114, 105, 111, 100]⟩, ⟨#[55]⟩, ⟨#[56]⟩]) (fun r => r.1 = false) := by
  obtain ⟨g1, g2, g3, g4⟩ := per_ne
  unfold P_clocks_read_4
  refine ok_ck ⟨by omega, by simp⟩ (ok_lv (ok_lv (ok_lv (ok_f ?_ (ok_ck ⟨by omega, by simp⟩ (ok_lv (ok_lv (ok_f ?_ (ok_ck ⟨by omega, by simp⟩ (ok_lv (ok_lv (ok_f ?_ (ok_ck ⟨by omega, by simp⟩ (ok_lv (ok_lv (ok_ck (fun _ => ⟨by omega, by simp⟩) (ok_lv (ok_lv (ok_lv (ok_f ?_ (ok_some rfl)))))))))))))))))))))
  · simp [gt]
  · simp [gt, g1]
  · simp [gt, g2]
  · simp [gt, g3, g4]
/-- A line that is none is found. -/
theorem bad_ok {ts : List ByteArray} {y : Int} (hty : inb y ts.length) (hl : ts.length ≤ 1000) (ht : gt ts y = bad) (s : St4) : Ok (P_clocks_Read_L5 ts (y, s)) (fun o => ∃ z, o = Sum.inr (Sum.inr (z, y + 1, 10))) := by
  obtain ⟨p1, I1, O1, T1⟩ := s
  obtain ⟨hy0, hy1⟩ := hty
  unfold P_clocks_Read_L5
  dsimp only
  refine ok_t hy1 (ok_bs (R := fun o => ∃ z, o = Sum.inr (z, y + 1, 10)) (ok_ck ⟨hy0, hy1⟩ (ok_lv ?_)) ?_ ?_)
  · rw [ht]
    refine ok_f ?_ (ok_bd (R := fun r => r = splitS bad ⟨#[32]⟩) ?_ ?_)
    · intro e
      have := congrArg ByteArray.size e
      rw [bad_size] at this
      exact absurd this (by decide)
    · unfold P_strings_Split
      exact ok_ck ⟨by rw [bad_size]; omega, Nat.le_refl 1⟩ (ok_some rfl)
    rintro _ rfl
    rw [bad_split]
    refine ok_bd (read_bad (p1, I1, O1, T1)) ?_
    rintro r hr
    exact ok_t (by rw [hr]; rfl) (ok_ar (by omega) (ok_some ⟨_, rfl⟩))
  · rintro x ⟨z, e⟩
    cases e
  · rintro x ⟨z, e⟩
    cases e
    exact ok_some ⟨_, rfl⟩
section
variable {ks : List (Option Ln)} (hg : ∀ x, some x ∈ ks → x.Good) (hlen : ks.length ≤ 100) (hp : ∀ y, inb y ks.length → ∀ n, gt ks y = some (.per n) → (oAll (ks.take y.toNat) st0).1 = 0)
include hg hlen hp
/-- All lines are read. -/
theorem lines_ok : Ok (lp (P_clocks_Read_L5 (ks.map oText)) fuel (0, st0)) (fun o => o = Sum.inl (oAll ks st0)) := by
  refine ok_lp (fun s => (0 ≤ s.1 ∧ s.1 ≤ ks.length) ∧ s.2 = oAll (ks.take s.1.toNat) st0) (fun s => ((ks.length : Int) - s.1).toNat) ⟨⟨by simp, by simp only; omega⟩, rfl⟩ (by simp only; omega) ?_
  rintro ⟨y, s⟩ ⟨⟨y0, y1⟩, y2⟩
  simp only at y0 y1 y2
  subst y2
  by_cases e : y < ks.length
  · have hty : inb y (ks.map oText).length := ⟨y0, by rw [List.length_map]; omega⟩
    refine (round_ok ⟨y0, e⟩ hty (gt_map oText ⟨y0, e⟩) (fun x hx => hg x (hx ▸ gt_mem ⟨y0, e⟩)) hlen (hp y ⟨y0, e⟩)).mono ?_
    rintro _ rfl
    exact ⟨⟨⟨by simp only; omega, by simp only; omega⟩, rfl⟩, by simp only; omega⟩
  · generalize hs : oAll (ks.take y.toNat) st0 = s
    obtain ⟨p1, I1, O1, T1⟩ := s
    unfold P_clocks_Read_L5
    dsimp only
    refine ok_f (by rw [List.length_map]; exact e) (ok_some ?_)
    simp only
    rw [← hs, List.take_of_length_le (by omega)]
/-- The lines ahead of one that is none. -/
theorem linesBad_ok {ts : List ByteArray} {k : Int} (hk : 0 ≤ k ∧ k ≤ ks.length) (hkt : k < ts.length) (hl : ts.length ≤ 1000) (h1 : ∀ y, 0 ≤ y → y < k → gt ts y = oText (gt ks y)) (h2 : gt ts k = bad) :
    Ok (lp (P_clocks_Read_L5 ts) fuel (0, st0)) (fun o => ∃ z, o = Sum.inr (z, k + 1, 10)) := by
  refine ok_lp (fun s => (0 ≤ s.1 ∧ s.1 ≤ k) ∧ s.2 = oAll (ks.take s.1.toNat) st0) (fun s => (k - s.1).toNat) ⟨⟨by simp, by simp only; omega⟩, rfl⟩ (by simp only; omega) ?_
  rintro ⟨y, s⟩ ⟨⟨y0, y1⟩, y2⟩
  simp only at y0 y1 y2
  subst y2
  by_cases e : y < k
  · have hyk : inb y ks.length := ⟨y0, by omega⟩
    refine (round_ok hyk ⟨y0, by omega⟩ (h1 y y0 e) (fun x hx => hg x (hx ▸ gt_mem hyk)) hlen (hp y hyk)).mono ?_
    rintro _ rfl
    exact ⟨⟨⟨by simp only; omega, by simp only; omega⟩, rfl⟩, by simp only; omega⟩
  · obtain rfl : y = k := by omega
    refine (bad_ok ⟨y0, hkt⟩ hl h2 _).mono ?_
    rintro _ ⟨z, rfl⟩
    exact ⟨z, rfl⟩
end
end Go.Proofs.YtkenpbnpemjbhaaDoor.X
