/- Reading the text of a layout. Plain. -/
import Derived.Test.YtlolchgeedegdaaDoorLB
namespace Go.Proofs.YtlolchgeedegdaaDoor.X
open Go Go.RowKit
set_option linter.unusedVariables false
set_option linter.unusedSimpArgs false
set_option linter.unusedSectionVars false
theorem count_ok (k : Lk) : P_layfmt_count k.word = some (k.nums.length : Int) := by
  cases k with
  | lay l => show P_layfmt_count ⟨#[108, 97, 121, 111, 117, 116]⟩ = some 4; decide +kernel
  | wall l => show P_layfmt_count ⟨#[119, 97, 108, 108]⟩ = some 5; decide +kernel
  | pin p =>
    rw [Lk.word, Lk.nums]
    split
    · show P_layfmt_count ⟨#[100, 114, 105, 118, 101]⟩ = some 3; decide +kernel
    · show P_layfmt_count ⟨#[112, 105, 110]⟩ = some 4; decide +kernel
  | wire l => show P_layfmt_count ⟨#[119, 105, 114, 101]⟩ = some 6; decide +kernel
  | via l => show P_layfmt_count ⟨#[118, 105, 97]⟩ = some 4; decide +kernel
theorem placeL_ok (k : Lk) : P_layfmt_place k.word = some k.part := by
  cases k with
  | lay l => show P_layfmt_place ⟨#[108, 97, 121, 111, 117, 116]⟩ = some 0; decide +kernel
  | wall l => show P_layfmt_place ⟨#[119, 97, 108, 108]⟩ = some 1; decide +kernel
  | pin p =>
    rw [Lk.word, Lk.part]
    split
    · show P_layfmt_place ⟨#[100, 114, 105, 118, 101]⟩ = some 2; decide +kernel
    · show P_layfmt_place ⟨#[112, 105, 110]⟩ = some 2; decide +kernel
  | wire l => show P_layfmt_place ⟨#[119, 105, 114, 101]⟩ = some 3; decide +kernel
  | via l => show P_layfmt_place ⟨#[118, 105, 97]⟩ = some 4; decide +kernel
theorem word_free (k : Lk) : Free 32 k.word ∧ Free 10 k.word ∧ k.word.size ≤ 6 := by
  cases k with
  | pin p => rw [Lk.word]; split <;> exact ⟨by simp [Free], by simp [Free], by decide⟩
  | lay l => exact ⟨by simp [Free, Lk.word], by simp [Free, Lk.word], by rw [Lk.word]; decide⟩
  | wall l => exact ⟨by simp [Free, Lk.word], by simp [Free, Lk.word], by rw [Lk.word]; decide⟩
  | wire l => exact ⟨by simp [Free, Lk.word], by simp [Free, Lk.word], by rw [Lk.word]; decide⟩
  | via l => exact ⟨by simp [Free, Lk.word], by simp [Free, Lk.word], by rw [Lk.word]; decide⟩
/-- What is read so far. -/
abbrev S8 := Int × Int × Int × Int × List T_rules_Wire × List T_rules_Via × List T_rules_Pin × List T_floor_Wall
def Lk.add : Lk → S8 → S8
  | .lay l, s => (l.W, l.H, l.Layers, l.Nets, s.2.2.2.2)
  | .wall x, s => (s.1, s.2.1, s.2.2.1, s.2.2.2.1, s.2.2.2.2.1, s.2.2.2.2.2.1, s.2.2.2.2.2.2.1, s.2.2.2.2.2.2.2 ++ [x])
  | .pin x, s => (s.1, s.2.1, s.2.2.1, s.2.2.2.1, s.2.2.2.2.1, s.2.2.2.2.2.1, s.2.2.2.2.2.2.1 ++ [x], s.2.2.2.2.2.2.2)
  | .wire x, s => (s.1, s.2.1, s.2.2.1, s.2.2.2.1, s.2.2.2.2.1 ++ [x], s.2.2.2.2.2.1, s.2.2.2.2.2.2.1, s.2.2.2.2.2.2.2)
  | .via x, s => (s.1, s.2.1, s.2.2.1, s.2.2.2.1, s.2.2.2.2.1, s.2.2.2.2.2.1 ++ [x], s.2.2.2.2.2.2.1, s.2.2.2.2.2.2.2)
def Lk.Good (k : Lk) : Prop := Sm k.nums ∧ ∀ p, k = .pin p → p.Drive = true → p.Size = 0
theorem enter_ok {k : Lk} (hk : k.Good) {s : S8} (h1 : s.2.2.2.2.1.length ≤ 1000) (h2 : s.2.2.2.2.2.1.length ≤ 1000) (h3 : s.2.2.2.2.2.2.1.length ≤ 1000) (h4 : s.2.2.2.2.2.2.2.length ≤ 1000) :
    Ok (P_layfmt_enter_5 (T_rules_Layout.mk s.1 s.2.1 s.2.2.1 s.2.2.2.1 s.2.2.2.2.1 s.2.2.2.2.2.1 s.2.2.2.2.2.2.1 s.2.2.2.2.2.2.2) k.word k.nums) (fun r => r = k.add s) := by
  obtain ⟨a, b, c, d, ws, vs, ps, xs⟩ := s
  dsimp only at h1 h2 h3 h4
  cases k with
  | lay l =>
    unfold P_layfmt_enter_5
    refine ok_bd (R := fun r => r = (l.W, l.H, l.Layers, l.Nets, ws, vs, ps, xs)) (ok_t rfl ?_) ?_
    · exact ok_ck ⟨by omega, by simp [Lk.nums]⟩ (ok_lv (ok_ck ⟨by omega, by simp [Lk.nums]⟩ (ok_lv (ok_ck ⟨by omega, by simp [Lk.nums]⟩ (ok_lv (ok_ck ⟨by omega, by simp [Lk.nums]⟩ (ok_lv (ok_some rfl))))))))
    rintro _ rfl
    exact ok_some rfl
  | wall x =>
    unfold P_layfmt_enter_5
    refine ok_bd (R := fun r => r = (a, b, c, d, ws, vs, ps, xs ++ [x])) (ok_f (by show ¬ ((⟨#[119, 97, 108, 108]⟩ : ByteArray) = _); decide) (ok_bd (R := fun r => r = (ws, vs, ps, xs ++ [x])) (ok_t rfl ?_) ?_)) ?_
    · exact ok_ck ⟨by omega, by simp [Lk.nums]⟩ (ok_lv (ok_ck ⟨by omega, by simp [Lk.nums]⟩ (ok_lv (ok_ck ⟨by omega, by simp [Lk.nums]⟩ (ok_lv (ok_ck ⟨by omega, by simp [Lk.nums]⟩ (ok_lv (ok_ck ⟨by omega, by simp [Lk.nums]⟩ (ok_lv (ok_lv (ok_ck (by simp only [apOk, List.length_append, List.length_singleton]; omega) (ok_some rfl))))))))))))
    · rintro _ rfl; exact ok_some rfl
    · rintro _ rfl; exact ok_some rfl
  | pin p =>
    unfold P_layfmt_enter_5
    by_cases hd : p.Drive = true
    · have hz := hk.2 p rfl hd
      rw [Lk.word, Lk.nums, if_pos hd, if_pos hd]
      refine ok_bd (R := fun r => r = (a, b, c, d, ws, vs, ps ++ [p], xs)) (ok_f (by decide) (ok_bd (R := fun r => r = (ws, vs, ps ++ [p], xs)) (ok_f (by decide) (ok_bd (R := fun r => r = (ws, vs, ps ++ [p])) (ok_f (by decide) (ok_bd (R := fun r => r = (ws, vs, ps ++ [p])) (ok_t rfl ?_) ?_)) ?_)) ?_)) ?_
      · refine ok_ck ⟨by omega, by simp⟩ (ok_lv (ok_ck ⟨by omega, by simp⟩ (ok_lv (ok_ck ⟨by omega, by simp⟩ (ok_lv (ok_lv (ok_ck (by simp only [apOk, List.length_append, List.length_singleton]; omega) (ok_some ?_))))))))
        have e : (T_rules_Pin.mk (gt [p.Net, p.X, p.Y] 0) (gt [p.Net, p.X, p.Y] 1) (gt [p.Net, p.X, p.Y] 2) true 0) = p := by
          obtain ⟨n1, n2, n3, n4, n5⟩ := p
          simp only at hd hz
          subst hd; subst hz
          rfl
        rw [e]
      all_goals (rintro _ rfl; exact ok_some rfl)
    · rw [Lk.word, Lk.nums, if_neg hd, if_neg hd]
      refine ok_bd (R := fun r => r = (a, b, c, d, ws, vs, ps ++ [p], xs)) (ok_f (by decide) (ok_bd (R := fun r => r = (ws, vs, ps ++ [p], xs)) (ok_f (by decide) (ok_bd (R := fun r => r = (ws, vs, ps ++ [p])) (ok_t rfl ?_) ?_)) ?_)) ?_
      · refine ok_ck ⟨by omega, by simp⟩ (ok_lv (ok_ck ⟨by omega, by simp⟩ (ok_lv (ok_ck ⟨by omega, by simp⟩ (ok_lv (ok_ck ⟨by omega, by simp⟩ (ok_lv (ok_lv (ok_ck (by simp only [apOk, List.length_append, List.length_singleton]; omega) (ok_some ?_))))))))))
        have e : (T_rules_Pin.mk (gt [p.Net, p.X, p.Y, p.Size] 0) (gt [p.Net, p.X, p.Y, p.Size] 1) (gt [p.Net, p.X, p.Y, p.Size] 2) false (gt [p.Net, p.X, p.Y, p.Size] 3)) = p := by
          obtain ⟨n1, n2, n3, n4, n5⟩ := p
          simp only [Bool.not_eq_true] at hd
          subst hd
          rfl
        rw [e]
      all_goals (rintro _ rfl; exact ok_some rfl)
  | wire x =>
    unfold P_layfmt_enter_5
    refine ok_bd (R := fun r => r = (a, b, c, d, ws ++ [x], vs, ps, xs)) (ok_f (by show ¬ ((⟨#[119, 105, 114, 101]⟩ : ByteArray) = _); decide) (ok_bd (R := fun r => r = (ws ++ [x], vs, ps, xs)) (ok_f (by show ¬ ((⟨#[119, 105, 114, 101]⟩ : ByteArray) = _); decide) (ok_bd (R := fun r => r = (ws ++ [x], vs, ps)) (ok_f (by show ¬ ((⟨#[119, 105, 114, 101]⟩ : ByteArray) = _); decide) (ok_bd (R := fun r => r = (ws ++ [x], vs, ps)) (ok_f (by show ¬ ((⟨#[119, 105, 114, 101]⟩ : ByteArray) = _); decide) (ok_bd (R := fun r => r = (ws ++ [x], vs)) (ok_t rfl ?_) ?_)) ?_)) ?_)) ?_)) ?_
    · exact ok_ck ⟨by omega, by simp [Lk.nums]⟩ (ok_lv (ok_ck ⟨by omega, by simp [Lk.nums]⟩ (ok_lv (ok_ck ⟨by omega, by simp [Lk.nums]⟩ (ok_lv (ok_ck ⟨by omega, by simp [Lk.nums]⟩ (ok_lv (ok_ck ⟨by omega, by simp [Lk.nums]⟩ (ok_lv (ok_ck ⟨by omega, by simp [Lk.nums]⟩ (ok_lv (ok_lv (ok_ck (by simp only [apOk, List.length_append, List.length_singleton]; omega) (ok_some rfl))))))))))))))
    all_goals (rintro _ rfl; exact ok_some rfl)
  | via x =>
    unfold P_layfmt_enter_5
    refine ok_bd (R := fun r => r = (a, b, c, d, ws, vs ++ [x], ps, xs)) (ok_f (by show ¬ ((⟨#[118, 105, 97]⟩ : ByteArray) = _); decide) (ok_bd (R := fun r => r = (ws, vs ++ [x], ps, xs)) (ok_f (by show ¬ ((⟨#[118, 105, 97]⟩ : ByteArray) = _); decide) (ok_bd (R := fun r => r = (ws, vs ++ [x], ps)) (ok_f (by show ¬ ((⟨#[118, 105, 97]⟩ : ByteArray) = _); decide) (ok_bd (R := fun r => r = (ws, vs ++ [x], ps)) (ok_f (by show ¬ ((⟨#[118, 105, 97]⟩ : ByteArray) = _); decide) (ok_bd (R := fun r => r = (ws, vs ++ [x])) (ok_f (by show ¬ ((⟨#[118, 105, 97]⟩ : ByteArray) = _); decide) (ok_bd (R := fun r => r = vs ++ [x]) (ok_t rfl ?_) ?_)) ?_)) ?_)) ?_)) ?_)) ?_
    · exact ok_ck ⟨by omega, by simp [Lk.nums]⟩ (ok_lv (ok_ck ⟨by omega, by simp [Lk.nums]⟩ (ok_lv (ok_ck ⟨by omega, by simp [Lk.nums]⟩ (ok_lv (ok_ck ⟨by omega, by simp [Lk.nums]⟩ (ok_lv (ok_lv (ok_ck (by simp only [apOk, List.length_append, List.length_singleton]; omega) (ok_some rfl))))))))))
    all_goals (rintro _ rfl; exact ok_some rfl)
def addAll (ks : List Lk) (s : S8) : S8 := ks.foldl (fun s k => k.add s) s
theorem addAll_app (a b : List Lk) (s : S8) : addAll (a ++ b) s = addAll b (addAll a s) := List.foldl_append
theorem addAll_len : ∀ (ks : List Lk) (s : S8), (addAll ks s).2.2.2.2.1.length ≤ s.2.2.2.2.1.length + ks.length ∧ (addAll ks s).2.2.2.2.2.1.length ≤ s.2.2.2.2.2.1.length + ks.length ∧ (addAll ks s).2.2.2.2.2.2.1.length ≤ s.2.2.2.2.2.2.1.length + ks.length ∧ (addAll ks s).2.2.2.2.2.2.2.length ≤ s.2.2.2.2.2.2.2.length + ks.length
  | [], s => by simp [addAll]
  | k :: ks, s => by
    have h := addAll_len ks (k.add s)
    have e : addAll (k :: ks) s = addAll ks (k.add s) := rfl
    rw [e]
    have h2 : (k.add s).2.2.2.2.1.length ≤ s.2.2.2.2.1.length + 1 ∧ (k.add s).2.2.2.2.2.1.length ≤ s.2.2.2.2.2.1.length + 1 ∧ (k.add s).2.2.2.2.2.2.1.length ≤ s.2.2.2.2.2.2.1.length + 1 ∧ (k.add s).2.2.2.2.2.2.2.length ≤ s.2.2.2.2.2.2.2.length + 1 := by
      cases k <;> simp [Lk.add]
    simp only [List.length_cons]
    omega
theorem nums_len (k : Lk) : k.nums.length ≤ 6 := by
  cases k with
  | pin p => rw [Lk.nums]; split <;> simp
  | _ => simp [Lk.nums]
theorem part_le (k : Lk) : 0 ≤ k.part ∧ k.part ≤ 4 := by cases k <;> simp [Lk.part]
theorem ll_cons (l : T_rules_Layout) : llines l = .lay l :: (l.Walls.map Lk.wall ++ (l.Pins.map Lk.pin ++ (l.Wires.map Lk.wire ++ l.Vias.map Lk.via))) := by simp [llines]
theorem pw_all {α : Type} {R : α → α → Prop} (h : ∀ x y, R x y) : ∀ l : List α, l.Pairwise R
  | [] => List.Pairwise.nil
  | x :: xs => List.Pairwise.cons (fun y _ => h x y) (pw_all h xs)
theorem ll_sorted (l : T_rules_Layout) : (llines l).Pairwise (fun a b => a.part ≤ b.part) := by
  rw [ll_cons]
  simp only [List.pairwise_cons, List.pairwise_append, List.pairwise_map, List.mem_append, List.mem_map, Lk.part]
  refine ⟨fun k _ => (part_le k).1, ?_, ⟨?_, ⟨?_, ?_, ?_⟩, ?_⟩, ?_⟩
  · exact pw_all (fun _ _ => Int.le_refl _) _
  · exact pw_all (fun _ _ => Int.le_refl _) _
  · exact pw_all (fun _ _ => Int.le_refl _) _
  · exact pw_all (fun _ _ => Int.le_refl _) _
  · rintro a ⟨x, -, rfl⟩ b ⟨y, -, rfl⟩; simp [Lk.part]
  · rintro a ⟨x, -, rfl⟩ b (⟨y, -, rfl⟩ | ⟨y, -, rfl⟩) <;> simp [Lk.part]
  · rintro a ⟨x, -, rfl⟩ b (⟨y, -, rfl⟩ | ⟨y, -, rfl⟩ | ⟨y, -, rfl⟩) <;> simp [Lk.part]
theorem ll_mono {l : T_rules_Layout} {i j : Int} (h0 : 0 ≤ i) (h1 : i < j) (h2 : j < (llines l).length) : (gt (llines l) i).part ≤ (gt (llines l) j).part := by
  obtain ⟨a, rfl⟩ := Int.eq_ofNat_of_zero_le h0
  obtain ⟨b, rfl⟩ := Int.eq_ofNat_of_zero_le (by omega : 0 ≤ j)
  have ha : a < (llines l).length := by omega
  have hb : b < (llines l).length := by omega
  have := List.pairwise_iff_getElem.1 (ll_sorted l) a b ha hb (by omega)
  simpa [gt, List.getD_eq_getElem?_getD, ha, hb] using this
theorem ll_zero {l : T_rules_Layout} {y : Int} (hy : inb y (llines l).length) : (gt (llines l) y).part = 0 ↔ y = 0 := by
  constructor
  · intro h
    by_cases e : y = 0
    · exact e
    exfalso
    obtain ⟨k, rfl⟩ := Int.eq_ofNat_of_zero_le hy.1
    obtain ⟨k, rfl⟩ : ∃ j, k = j + 1 := ⟨k - 1, by omega⟩
    have h2 := hy.2
    rw [ll_cons] at h h2
    have hk : k < (l.Walls.map Lk.wall ++ (l.Pins.map Lk.pin ++ (l.Wires.map Lk.wire ++ l.Vias.map Lk.via))).length := by simp only [List.length_cons] at h2; omega
    have hm := List.getElem_mem hk
    have e2 : gt (Lk.lay l :: (l.Walls.map Lk.wall ++ (l.Pins.map Lk.pin ++ (l.Wires.map Lk.wire ++ l.Vias.map Lk.via)))) ((k + 1 : Nat) : Int) = (l.Walls.map Lk.wall ++ (l.Pins.map Lk.pin ++ (l.Wires.map Lk.wire ++ l.Vias.map Lk.via)))[k] := by
      simp only [gt, Int.toNat_natCast, List.getD_eq_getElem?_getD, List.getElem?_cons_succ, List.getElem?_eq_getElem hk, Option.getD_some]
    rw [e2] at h
    generalize (l.Walls.map Lk.wall ++ (l.Pins.map Lk.pin ++ (l.Wires.map Lk.wire ++ l.Vias.map Lk.via)))[k] = q at h hm
    simp only [List.mem_append, List.mem_map] at hm
    rcases hm with ⟨x, -, rfl⟩ | ⟨x, -, rfl⟩ | ⟨x, -, rfl⟩ | ⟨x, -, rfl⟩ <;> simp [Lk.part] at h
  · rintro rfl
    rw [ll_cons]
    rfl
section
variable {l : T_rules_Layout} (hl : LayN l)
include hl
theorem ll_good : ∀ k ∈ llines l, k.Good := by
  intro k hk
  rw [ll_cons] at hk
  simp only [List.mem_cons, List.mem_append, List.mem_map] at hk
  rcases hk with rfl | ⟨x, hx, rfl⟩ | ⟨x, hx, rfl⟩ | ⟨x, hx, rfl⟩ | ⟨x, hx, rfl⟩
  · exact ⟨sm_lay hl, fun p e => by cases e⟩
  · obtain ⟨i, hi, rfl⟩ := mem_gt hx
    exact ⟨sm_wall hl (hl.wall i hi), fun p e => by cases e⟩
  · obtain ⟨i, hi, rfl⟩ := mem_gt hx
    exact ⟨sm_pin hl (hl.pin i hi), fun p e hd => by cases e; exact (hl.pin i hi).drive hd⟩
  · obtain ⟨i, hi, rfl⟩ := mem_gt hx
    exact ⟨sm_wire hl (hl.wire i hi), fun p e => by cases e⟩
  · obtain ⟨i, hi, rfl⟩ := mem_gt hx
    exact ⟨sm_via hl (hl.via i hi), fun p e => by cases e⟩
theorem ll_len : 1 ≤ (llines l).length ∧ (llines l).length ≤ 22 := by
  have e1 := hl.wireL
  have e2 := hl.viaL
  have e3 := hl.pinL
  have e4 := hl.wallL
  simp only [llines, List.length_append, List.length_map, List.length_singleton]
  omega
end
end Go.Proofs.YtlolchgeedegdaaDoor.X
