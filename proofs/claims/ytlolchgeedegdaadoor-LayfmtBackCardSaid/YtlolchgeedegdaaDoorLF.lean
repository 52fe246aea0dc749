/- Reading the text of a floor; LayfmtBack. Plain. -/
import Derived.Test.YtlolchgeedegdaaDoorLE
namespace Go.Proofs.YtlolchgeedegdaaDoor.X
open Go Go.RowKit
set_option linter.unusedVariables false
set_option linter.unusedSimpArgs false
set_option linter.unusedSectionVars false
theorem eq_size (s : ByteArray) : ((⟨#[61]⟩ : ByteArray) ++ s).size = 1 + s.size := by rw [ByteArray.size_append]; rfl
theorem cut0 (s : ByteArray) : subS ((⟨#[61]⟩ : ByteArray) ++ s) 0 ((⟨#[61]⟩ : ByteArray).size : Int) = ⟨#[61]⟩ := ba_ext (by
  simp only [subS]
  rw [Go.Lib.extract_data]
  simp [ByteArray.data_append, sz_lit])
theorem cut1 (s : ByteArray) : subS ((⟨#[61]⟩ : ByteArray) ++ s) ((⟨#[61]⟩ : ByteArray).size : Int) (((⟨#[61]⟩ : ByteArray) ++ s).size : Int) = s := ba_ext (by
  simp only [subS, Int.toNat_natCast]
  rw [Go.Lib.extract_to_end]
  simp [ByteArray.data_append, sz_lit])
theorem cutPrefix_ok (s : ByteArray) (h : s.size ≤ 100) : Ok (P_strings_CutPrefix ((⟨#[61]⟩ : ByteArray) ++ s) ⟨#[61]⟩) (fun r => r = (s, true)) := by
  have hz := eq_size s
  unfold P_strings_CutPrefix
  refine ok_bd (R := fun r => r = (s, true)) ?_ ?_
  · unfold P_internal_stringslite_CutPrefix
    refine ok_bd (R := fun r => r = true) ?_ ?_
    · unfold P_internal_stringslite_HasPrefix
      refine ok_ck (fun _ => ⟨by omega, by omega, by rw [hz]; simp only [sz_lit, List.size_toArray, List.length_cons, List.length_nil]; omega⟩) (ok_lv (ok_lv (ok_some ?_)))
      rw [cut0, decide_eq_true (rfl : (⟨#[61]⟩ : ByteArray) = ⟨#[61]⟩), Bool.and_true, decide_eq_true_eq, hz]
      simp only [sz_lit, List.size_toArray, List.length_cons, List.length_nil]
      omega
    rintro _ rfl
    refine ok_f (by simp) (ok_ck ⟨by omega, by rw [hz]; simp only [sz_lit, List.size_toArray, List.length_cons, List.length_nil]; omega, by omega⟩ (ok_lv (ok_some ?_)))
    rw [cut1]
  rintro _ rfl
  exact ok_some rfl
/-- What is read so far. -/
abbrev S7 := Int × Int × Int × List T_floor_Block × List T_floor_Wall × List T_floor_Port × List T_floor_Site
def Fk.add : Fk → S7 → S7
  | .flo f, s => (f.Rows, f.Sites, f.Layers, s.2.2.2)
  | .block x, s => (s.1, s.2.1, s.2.2.1, s.2.2.2.1 ++ [x], s.2.2.2.2.1, s.2.2.2.2.2.1, s.2.2.2.2.2.2)
  | .wall x, s => (s.1, s.2.1, s.2.2.1, s.2.2.2.1, s.2.2.2.2.1 ++ [x], s.2.2.2.2.2.1, s.2.2.2.2.2.2)
  | .port x, s => (s.1, s.2.1, s.2.2.1, s.2.2.2.1, s.2.2.2.2.1, s.2.2.2.2.2.1 ++ [x], s.2.2.2.2.2.2)
  | .site x, s => (s.1, s.2.1, s.2.2.1, s.2.2.2.1, s.2.2.2.2.1, s.2.2.2.2.2.1, s.2.2.2.2.2.2 ++ [x])
theorem part_ok (k : Fk) : P_layfmt_part k.word = some k.part := by
  cases k with
  | flo l => show P_layfmt_part ⟨#[102, 108, 111, 111, 114]⟩ = some 0; decide +kernel
  | block l => show P_layfmt_part ⟨#[98, 108, 111, 99, 107]⟩ = some 1; decide +kernel
  | wall l => show P_layfmt_part ⟨#[119, 97, 108, 108]⟩ = some 2; decide +kernel
  | port p =>
    rw [Fk.word, Fk.part]
    split
    · show P_layfmt_part ⟨#[111, 117, 116]⟩ = some 3; decide +kernel
    · show P_layfmt_part ⟨#[105, 110]⟩ = some 3; decide +kernel
  | site l => show P_layfmt_part ⟨#[115, 105, 116, 101]⟩ = some 4; decide +kernel
theorem fcount : P_layfmt_count ⟨#[102, 108, 111, 111, 114]⟩ = some 3 ∧ P_layfmt_count ⟨#[98, 108, 111, 99, 107]⟩ = some 3 ∧ P_layfmt_count ⟨#[119, 97, 108, 108]⟩ = some 5 ∧ P_layfmt_count ⟨#[115, 105, 116, 101]⟩ = some 2 := by decide +kernel
theorem fword_free (k : Fk) : Free 32 k.word ∧ Free 10 k.word ∧ k.word.size ≤ 6 := by
  cases k with
  | port p => rw [Fk.word]; split <;> exact ⟨by simp [Free], by simp [Free], by decide⟩
  | flo l => exact ⟨by simp [Free, Fk.word], by simp [Free, Fk.word], by rw [Fk.word]; decide⟩
  | block l => exact ⟨by simp [Free, Fk.word], by simp [Free, Fk.word], by rw [Fk.word]; decide⟩
  | wall l => exact ⟨by simp [Free, Fk.word], by simp [Free, Fk.word], by rw [Fk.word]; decide⟩
  | site l => exact ⟨by simp [Free, Fk.word], by simp [Free, Fk.word], by rw [Fk.word]; decide⟩
theorem text_cut (k : Fk) : ∃ b, k.text = k.word ++ (⟨#[32]⟩ ++ b) := by
  cases k <;> exact ⟨_, rfl⟩
theorem free_eq : Free 32 (⟨#[61]⟩ : ByteArray) ∧ Free 10 (⟨#[61]⟩ : ByteArray) := ⟨by simp [Free], by simp [Free]⟩
theorem ftext_free {k : Fk} (hk : k.Good) : Free 10 k.text := by
  obtain ⟨-, f, -⟩ := fword_free k
  cases k with
  | port p => exact f.app (free10_sp.app ((free_eq.2.app hk.2.free.2.1).app (numsT_free hk.1)))
  | flo l => exact f.app (numsT_free hk)
  | block l => exact f.app (numsT_free hk)
  | wall l => exact f.app (numsT_free hk)
  | site l => exact f.app (numsT_free hk)
theorem ftext_size {k : Fk} (hk : k.Good) : k.text.size ≤ 100 := by
  obtain ⟨-, -, f⟩ := fword_free k
  cases k with
  | port p =>
    have a := numsT_size hk.1
    have b := hk.2.free.2.2
    simp only [Fk.text, Fk.tail]
    simp only [List.length_cons, List.length_nil] at a
    exact (by simp only [ByteArray.size_append, sz_lit, List.size_toArray, List.length_cons, List.length_nil]; omega)
  | flo l => have a := numsT_size hk; simp only [Fk.text, Fk.tail]; simp only [Fk.nums, List.length_cons, List.length_nil] at a; simp only [Fk.nums]; exact (by simp only [ByteArray.size_append, sz_lit, List.size_toArray, List.length_cons, List.length_nil]; omega)
  | block l => have a := numsT_size hk; simp only [Fk.text, Fk.tail]; simp only [Fk.nums, List.length_cons, List.length_nil] at a; simp only [Fk.nums]; exact (by simp only [ByteArray.size_append, sz_lit, List.size_toArray, List.length_cons, List.length_nil]; omega)
  | wall l => have a := numsT_size hk; simp only [Fk.text, Fk.tail]; simp only [Fk.nums, List.length_cons, List.length_nil] at a; simp only [Fk.nums]; exact (by simp only [ByteArray.size_append, sz_lit, List.size_toArray, List.length_cons, List.length_nil]; omega)
  | site l => have a := numsT_size hk; simp only [Fk.text, Fk.tail]; simp only [Fk.nums, List.length_cons, List.length_nil] at a; simp only [Fk.nums]; exact (by simp only [ByteArray.size_append, sz_lit, List.size_toArray, List.length_cons, List.length_nil]; omega)
theorem lit_site : (⟨#[115, 105, 116, 101, 32]⟩ : ByteArray) = ⟨#[115, 105, 116, 101]⟩ ++ ⟨#[32]⟩ := by decide +kernel
theorem lay_ok {k : Fk} (hk : k.Good) {s : S7} (h1 : s.2.2.2.1.length ≤ 1000) (h2 : s.2.2.2.2.1.length ≤ 1000) (h3 : s.2.2.2.2.2.1.length ≤ 1000) (h4 : s.2.2.2.2.2.2.length ≤ 1000) :
    Ok (P_layfmt_lay_5 (T_floor_Floor.mk s.1 s.2.1 s.2.2.1 s.2.2.2.1 s.2.2.2.2.1 s.2.2.2.2.2.1) s.2.2.2.2.2.2 k.word k.text) (fun r => r = (true, k.add s)) := by
  obtain ⟨R, S, Y, bs, ws, ps, ss⟩ := s
  dsimp only at h1 h2 h3 h4
  obtain ⟨c1, c2, c3, c4⟩ := fcount
  have hwf := fword_free k
  cases k with
  | port p =>
    obtain ⟨hsm, hn⟩ := hk
    obtain ⟨n1, n2, n3⟩ := hn.free
    have hx := hsm p.X (by simp)
    have hy := hsm p.Y (by simp)
    have zx := (num_ok hx.1 hx.2).2.2.2
    have zy := (num_ok hy.1 hy.2).2.2.2
    have hsz := ftext_size (k := .port p) ⟨hsm, hn⟩
    unfold P_layfmt_lay_5
    refine ok_lv (ok_t ?_ (ok_bd (R := fun r => r = [(Fk.port p).word, (⟨#[61]⟩ : ByteArray) ++ p.Name, itoa p.X, itoa p.Y]) ?_ ?_))
    · rw [Fk.word]; split <;> simp
    · unfold P_strings_Split
      refine ok_ck ⟨by omega, Nat.le_refl 1⟩ (ok_some ?_)
      rw [Fk.text, Fk.tail, splitS_at hwf.1, splitS_nums (free_eq.1.app n1) hsm]
      rfl
    rintro _ rfl
    refine ok_f (by simp) (ok_ck ⟨by omega, by simp⟩ (ok_lv (ok_bd (cutPrefix_ok p.Name (by omega)) ?_)))
    rintro _ rfl
    refine ok_ck ⟨by omega, by simp⟩ (ok_lv ?_)
    rw [show gt [(Fk.port p).word, (⟨#[61]⟩ : ByteArray) ++ p.Name, itoa p.X, itoa p.Y] 2 = itoa p.X from rfl]
    refine ok_ck (by simp only [ByteArray.size_append, sz_lit, List.size_toArray, List.length_cons, List.length_nil]; omega) (ok_ck (by simp only [ByteArray.size_append, sz_lit, List.size_toArray, List.length_cons, List.length_nil]; omega) (ok_ck ⟨by omega, by simp⟩ (ok_lv ?_)))
    rw [show gt [(Fk.port p).word, (⟨#[61]⟩ : ByteArray) ++ p.Name, itoa p.X, itoa p.Y] 3 = itoa p.Y from rfl]
    refine ok_ck (by simp only [ByteArray.size_append, sz_lit, List.size_toArray, List.length_cons, List.length_nil]; omega) ?_
    rw [show (((⟨#[115, 105, 116, 101, 32]⟩ : ByteArray) ++ itoa p.X) ++ (⟨#[32]⟩ : ByteArray)) ++ itoa p.Y = (⟨#[115, 105, 116, 101]⟩ : ByteArray) ++ numsT [p.X, p.Y] by rw [lit_site, numsT, numsT, numsT, app_empty]; simp only [ByteArray.append_assoc]]
    refine ok_bd (words_ok (by simp [Free]) (by decide) hsm (by simp) c4) ?_
    rintro _ rfl
    refine ok_lv (ok_bd (R := fun r => r = ps ++ [p]) (ok_t (by simp) (ok_ck ⟨by omega, by simp⟩ (ok_lv (ok_ck ⟨by omega, by simp⟩ (ok_lv (ok_lv (ok_ck (by simp only [apOk, List.length_append, List.length_singleton]; omega) (ok_some ?_)))))))) ?_)
    · have e : decide ((Fk.port p).word = (⟨#[111, 117, 116]⟩ : ByteArray)) = p.Out := by
        rw [Fk.word]
        by_cases ho : p.Out = true
        · rw [if_pos ho, ho]; decide
        · rw [if_neg ho]; simp only [Bool.not_eq_true] at ho; rw [ho]; decide
      dsimp only
      rw [e]
      rfl
    rintro _ rfl
    exact ok_lv (ok_some (by simp [Fk.add]))
  | flo f =>
    unfold P_layfmt_lay_5
    refine ok_lv (ok_f (by show ¬ ((decide ((⟨#[102, 108, 111, 111, 114]⟩ : ByteArray) = _) || decide ((⟨#[102, 108, 111, 111, 114]⟩ : ByteArray) = _)) = true); decide) (ok_bd (words_ok hwf.1 (by omega) hk (by simp [Fk.nums]) c1) ?_))
    rintro _ rfl
    refine ok_f (by simp [Fk.nums]) (ok_bd (R := fun r => r = (f.Rows, f.Sites, f.Layers, bs, ws, ss)) (ok_t rfl ?_) ?_)
    · exact ok_ck ⟨by omega, by simp [Fk.nums]⟩ (ok_lv (ok_ck ⟨by omega, by simp [Fk.nums]⟩ (ok_lv (ok_ck ⟨by omega, by simp [Fk.nums]⟩ (ok_lv (ok_some rfl))))))
    rintro _ rfl
    exact ok_some rfl
  | block x =>
    unfold P_layfmt_lay_5
    refine ok_lv (ok_f (by show ¬ ((decide ((⟨#[98, 108, 111, 99, 107]⟩ : ByteArray) = _) || decide ((⟨#[98, 108, 111, 99, 107]⟩ : ByteArray) = _)) = true); decide) (ok_bd (words_ok hwf.1 (by omega) hk (by simp [Fk.nums]) c2) ?_))
    rintro _ rfl
    refine ok_f (by simp [Fk.nums]) (ok_bd (R := fun r => r = (R, S, Y, bs ++ [x], ws, ss)) (ok_f (by show ¬ ((⟨#[98, 108, 111, 99, 107]⟩ : ByteArray) = _); decide) (ok_bd (R := fun r => r = (bs ++ [x], ws, ss)) (ok_t rfl ?_) ?_)) ?_)
    · exact ok_ck ⟨by omega, by simp [Fk.nums]⟩ (ok_lv (ok_ck ⟨by omega, by simp [Fk.nums]⟩ (ok_lv (ok_ck ⟨by omega, by simp [Fk.nums]⟩ (ok_lv (ok_lv (ok_ck (by simp only [apOk, List.length_append, List.length_singleton]; omega) (ok_some rfl))))))))
    all_goals (rintro _ rfl; exact ok_some rfl)
  | wall x =>
    unfold P_layfmt_lay_5
    refine ok_lv (ok_f (by show ¬ ((decide ((⟨#[119, 97, 108, 108]⟩ : ByteArray) = _) || decide ((⟨#[119, 97, 108, 108]⟩ : ByteArray) = _)) = true); decide) (ok_bd (words_ok hwf.1 (by omega) hk (by simp [Fk.nums]) c3) ?_))
    rintro _ rfl
    refine ok_f (by simp [Fk.nums]) (ok_bd (R := fun r => r = (R, S, Y, bs, ws ++ [x], ss)) (ok_f (by show ¬ ((⟨#[119, 97, 108, 108]⟩ : ByteArray) = _); decide) (ok_bd (R := fun r => r = (bs, ws ++ [x], ss)) (ok_f (by show ¬ ((⟨#[119, 97, 108, 108]⟩ : ByteArray) = _); decide) (ok_bd (R := fun r => r = (ws ++ [x], ss)) (ok_t rfl ?_) ?_)) ?_)) ?_)
    · exact ok_ck ⟨by omega, by simp [Fk.nums]⟩ (ok_lv (ok_ck ⟨by omega, by simp [Fk.nums]⟩ (ok_lv (ok_ck ⟨by omega, by simp [Fk.nums]⟩ (ok_lv (ok_ck ⟨by omega, by simp [Fk.nums]⟩ (ok_lv (ok_ck ⟨by omega, by simp [Fk.nums]⟩ (ok_lv (ok_lv (ok_ck (by simp only [apOk, List.length_append, List.length_singleton]; omega) (ok_some rfl))))))))))))
    all_goals (rintro _ rfl; exact ok_some rfl)
  | site x =>
    unfold P_layfmt_lay_5
    refine ok_lv (ok_f (by show ¬ ((decide ((⟨#[115, 105, 116, 101]⟩ : ByteArray) = _) || decide ((⟨#[115, 105, 116, 101]⟩ : ByteArray) = _)) = true); decide) (ok_bd (words_ok hwf.1 (by omega) hk (by simp [Fk.nums]) c4) ?_))
    rintro _ rfl
    refine ok_f (by simp [Fk.nums]) (ok_bd (R := fun r => r = (R, S, Y, bs, ws, ss ++ [x])) (ok_f (by show ¬ ((⟨#[115, 105, 116, 101]⟩ : ByteArray) = _); decide) (ok_bd (R := fun r => r = (bs, ws, ss ++ [x])) (ok_f (by show ¬ ((⟨#[115, 105, 116, 101]⟩ : ByteArray) = _); decide) (ok_bd (R := fun r => r = (ws, ss ++ [x])) (ok_f (by show ¬ ((⟨#[115, 105, 116, 101]⟩ : ByteArray) = _); decide) (ok_bd (R := fun r => r = ss ++ [x]) (ok_t rfl ?_) ?_)) ?_)) ?_)) ?_)
    · exact ok_ck ⟨by omega, by simp [Fk.nums]⟩ (ok_lv (ok_ck ⟨by omega, by simp [Fk.nums]⟩ (ok_lv (ok_lv (ok_ck (by simp only [apOk, List.length_append, List.length_singleton]; omega) (ok_some rfl))))))
    all_goals (rintro _ rfl; exact ok_some rfl)
end Go.Proofs.YtlolchgeedegdaaDoor.X
