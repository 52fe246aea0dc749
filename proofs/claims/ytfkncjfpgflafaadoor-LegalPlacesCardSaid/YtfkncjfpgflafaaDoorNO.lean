/- Rooms counted: how many they are, and how many sites they have. Plain. -/
import Derived.Test.YtfkncjfpgflafaaDoorNM
namespace Go.Proofs.YtfkncjfpgflafaaDoor.X
open Go Go.RowKit
set_option linter.unusedVariables false
set_option linter.unusedSimpArgs false
def wid (s : T_floor_Span) : Int := s.To - s.From
/-- The sites of the first spans. -/
def wsp (l : List T_floor_Span) : Nat → Int
  | 0 => 0
  | k + 1 => wsp l k + wid (gt l k)
/-- All sites of rooms. -/
def tot : List T_legal_room → Int
  | [] => 0
  | r :: l => wid r.Span + tot l
theorem tot_app (l : List T_legal_room) (r : T_legal_room) : tot (l ++ [r]) = tot l + wid r.Span := by
  induction l with
  | nil => simp [tot]
  | cons a l ih => rw [List.cons_append, tot, tot, ih]; omega
theorem tot_set : ∀ (l : List T_legal_room) (k : Nat) (r : T_legal_room), k < l.length → tot (l.set k r) = tot l - wid (l.getD k default).Span + wid r.Span
  | [], k, r, h => absurd h (Nat.not_lt_zero k)
  | a :: l, 0, r, h => by
    have e : (a :: l).set 0 r = r :: l := rfl
    have g : (a :: l).getD 0 default = a := rfl
    rw [e, g, tot, tot]; omega
  | a :: l, k + 1, r, h => by
    have ih := tot_set l k r (Nat.lt_of_succ_lt_succ h)
    have e : (a :: l).set (k + 1) r = a :: l.set k r := rfl
    have g : (a :: l).getD (k + 1) default = l.getD k default := rfl
    rw [e, g, tot, tot, ih]; omega
theorem tot_stt {l : List T_legal_room} {k : Int} (h : inb k l.length) (r : T_legal_room) : tot (stt l k r) = tot l - wid (gt l k).Span + wid r.Span := tot_set l k.toNat r (inb_lt h)
theorem tot_small {m : Int} : ∀ (l : List T_legal_room), (∀ k : Int, 0 ≤ k → k < l.length → wid (gt l k).Span ≤ m) → tot l ≤ l.length * m
  | [], _ => by simp [tot]
  | a :: l, h => by
    have h0 : wid a.Span ≤ m := h 0 (Int.le_refl _) (by rw [List.length_cons]; omega)
    have ih := tot_small l fun k k0 k1 => by
      have q := h (k + 1) (by omega) (by rw [List.length_cons]; omega)
      have e : gt (a :: l) (k + 1) = gt l k := by
        unfold gt
        rw [show (k + 1).toNat = k.toNat + 1 by omega]
        rfl
      rw [e] at q; exact q
    have e : (((a :: l).length : Nat) : Int) * m = l.length * m + m := by
      rw [List.length_cons, Int.natCast_add, Int.add_mul]; simp
    rw [e, tot]; omega
/-- What floor.Free answers for a row. -/
def fr (f : T_floor_Floor) (y : Nat) : List T_floor_Span := (P_floor_Free f y).getD []
/-- The free spans of the first rows, and their sites. -/
def nsp (f : T_floor_Floor) : Nat → Int
  | 0 => 0
  | y + 1 => nsp f y + (fr f y).length
def wds (f : T_floor_Floor) : Nat → Int
  | 0 => 0
  | y + 1 => wds f y + wsp (fr f y) (fr f y).length
theorem Free_fr {f : T_floor_Floor} (hf : FlN f) (hp : f.Ports = []) {row : Int} (r0 : 0 ≤ row) (r1 : row < f.Rows) : Ok (P_floor_Free f row) (fun r => r = fr f row.toNat ∧ SpansOk f row r ∧ r.length ≤ 11) := by
  obtain ⟨r, e, h⟩ := Free_ok hf hp r0 r1
  refine ⟨r, e, ?_, h⟩
  unfold fr
  rw [show ((row.toNat : Nat) : Int) = row by omega, e]
  rfl
theorem nsp_s {f : T_floor_Floor} {y z : Int} (h0 : 0 ≤ y) (hz : z = y + 1) : nsp f z.toNat = nsp f y.toNat + (fr f y.toNat).length := by
  rw [hz, show (y + 1).toNat = y.toNat + 1 by omega]; rfl
theorem wds_s {f : T_floor_Floor} {y z : Int} (h0 : 0 ≤ y) (hz : z = y + 1) : wds f z.toNat = wds f y.toNat + wsp (fr f y.toNat) (fr f y.toNat).length := by
  rw [hz, show (y + 1).toNat = y.toNat + 1 by omega]; rfl
theorem wsp_s {l : List T_floor_Span} {y z : Int} (h0 : 0 ≤ y) (hz : z = y + 1) : wsp l z.toNat = wsp l y.toNat + wid (gt l y) := by
  rw [hz, show (y + 1).toNat = y.toNat + 1 by omega]
  rw [wsp, show ((y.toNat : Nat) : Int) = y by omega]
theorem rooms_cnt {f : T_floor_Floor} (hf : FlN f) (hp : f.Ports = []) : Ok (P_legal_rooms f) (fun r => (r.length : Int) = nsp f f.Rows.toNat ∧ tot r = wds f f.Rows.toNat) := by
  have a := hf.R
  unfold P_legal_rooms
  refine ok_bd (R := fun r => (r.length : Int) = nsp f f.Rows.toNat ∧ tot r = wds f f.Rows.toNat) ?_ fun r hr => ok_some hr
  refine ok_lp (fun s => 0 ≤ s.2 ∧ s.2 ≤ f.Rows ∧ (s.1.length : Int) ≤ 11 * s.2 ∧ (s.1.length : Int) = nsp f s.2.toNat ∧ tot s.1 = wds f s.2.toNat) (fun s => (f.Rows - s.2).toNat)
    ⟨by simp, by simp only; omega, by simp, by simp [nsp], by simp [tot, wds]⟩ (by simp only; omega) ?_
  rintro ⟨out, y⟩ ⟨y0, y1, l1, h1, h2⟩
  simp only at y0 y1 l1 h1 h2 ⊢
  unfold P_legal_rooms_L3
  dsimp only
  refine ok_ite (fun hlt => ?_) fun hge => ok_some (by rw [show f.Rows = y by omega]; exact ⟨h1, h2⟩)
  refine ok_bd (Free_fr hf hp y0 hlt) ?_
  rintro sp ⟨es, hs, hl⟩
  refine ok_bd (R := fun o => (o.length : Int) ≤ 11 * (y + 1) ∧ (o.length : Int) = nsp f (y + 1).toNat ∧ tot o = wds f (y + 1).toNat) ?_ ?_
  · refine ok_lp (fun s => 0 ≤ s.2 ∧ s.2 ≤ sp.length ∧ (s.1.length : Int) = out.length + s.2 ∧ tot s.1 = tot out + wsp sp s.2.toNat) (fun s => ((sp.length : Int) - s.2).toNat)
      ⟨by simp, by simp only; omega, by simp, by simp [wsp]⟩ (by simp only; omega) ?_
    rintro ⟨o, z⟩ ⟨z0, z1, l2, h3⟩
    simp only at z0 z1 l2 h3 ⊢
    unfold P_legal_rooms_L6
    dsimp only
    refine ok_ite (fun hz => ?_) fun hz => ok_some ⟨by omega, ?_, ?_⟩
    · refine ok_ck ⟨z0, hz⟩ (ok_lv (ok_lv (ok_ck (by simp only [apOk, List.length_append, List.length_singleton]; omega) (ok_ar (by omega) (ok_some ⟨⟨by simp only; omega, by simp only; omega, by simp only [List.length_append, List.length_singleton]; omega, ?_⟩, by simp only; omega⟩)))))
      simp only
      rw [tot_app, wsp_s (y := z) z0 rfl, h3, Int.add_assoc]
    · rw [nsp_s (y := y) y0 rfl, ← es]; omega
    · rw [wds_s (y := y) y0 rfl, ← es, h3, h2, show z.toNat = sp.length by omega]
  rintro o ⟨o1, o2, o3⟩
  exact ok_ar (by omega) (ok_some ⟨⟨by simp only; omega, by simp only; omega, o1, o2, o3⟩, by simp only; omega⟩)
end Go.Proofs.YtfkncjfpgflafaaDoor.X
