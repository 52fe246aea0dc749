/- Floors of a stream (LD's texts, without those of layouts). Plain. -/
import Derived.Test.YtfkncjfpgflafaaDoorPA
import Derived.Test.YtfkncjfpgflafaaDoorYQ
namespace Go.Proofs.YtfkncjfpgflafaaDoor.X
open Go Go.RowKit
set_option linter.unusedVariables false
set_option linter.unusedSimpArgs false
set_option linter.unusedSectionVars false
theorem gt_snoc' {α : Type} [Inhabited α] {xs : List α} {x : α} {i : Int} (h : inb i (xs ++ [x]).length) : (inb i xs.length ∧ gt (xs ++ [x]) i = gt xs i) ∨ (i = xs.length ∧ gt (xs ++ [x]) i = x) := by
  obtain ⟨h0, h1⟩ := h
  simp only [List.length_append, List.length_singleton] at h1
  by_cases e : i = xs.length
  · exact .inr ⟨e, gt_app_1 e⟩
  · exact .inl ⟨⟨h0, by omega⟩, gt_app_l (by omega)⟩
def All {α : Type} [Inhabited α] (p : Int → α → Prop) (xs : List α) : Prop := ∀ i, inb i xs.length → p i (gt xs i)
theorem All.nil {α : Type} [Inhabited α] {p : Int → α → Prop} : All p [] := fun i hi => by obtain ⟨a, b⟩ := hi; simp at b; omega
theorem All.snoc {α : Type} [Inhabited α] {p : Int → α → Prop} {xs : List α} {x : α} (h : All p xs) (hx : p xs.length x) : All p (xs ++ [x]) := by
  intro i hi
  rcases gt_snoc' hi with ⟨h1, e⟩ | ⟨h1, e⟩
  · rw [e]; exact h i h1
  · rw [e, h1]; exact hx
theorem All.mono {α : Type} [Inhabited α] {p q : Int → α → Prop} {xs : List α} (h : All p xs) (hpq : ∀ i x, inb i xs.length → p i x → q i x) : All q xs := fun i hi => hpq i _ hi (h i hi)
structure WallN (W H Ly : Int) (w : T_floor_Wall) : Prop where
  layer : 0 ≤ w.Layer ∧ w.Layer < Ly
  x : 0 ≤ w.X0 ∧ w.X0 ≤ w.X1 ∧ w.X1 < W
  y : 0 ≤ w.Y0 ∧ w.Y0 ≤ w.Y1 ∧ w.Y1 < H
theorem itoaP_ok {n : Int} (h0 : 0 ≤ n) (h1 : n ≤ 200) : Ok (P_strconv_Itoa n) (fun r => r = itoa n) := by
  unfold P_strconv_Itoa
  exact ok_ck ⟨h0, by omega⟩ (ok_some rfl)
theorem decDigits_size : ((List.range 100).all fun n => decide ((Go.Lib.decDigits n).length ≤ 2)) = true := by decide +kernel
theorem sz_lit (a : Array UInt8) : (⟨a⟩ : ByteArray).size = a.size := rfl
theorem itoa_size {n : Int} (h0 : 0 ≤ n) (h1 : n < 100) : (itoa n).size ≤ 2 := by
  have := List.all_eq_true.1 decDigits_size n.toNat (List.mem_range.2 (by omega))
  simp only [decide_eq_true_eq] at this
  simpa [itoa, ByteArray.size] using this
structure BlockN (R S : Int) (b : T_floor_Block) : Prop where
  row : 0 ≤ b.Row ∧ b.Row < R
  x : 0 ≤ b.From ∧ b.From < b.To ∧ b.To ≤ S
def PName (s : ByteArray) : Prop := s = (⟨#[]⟩ : ByteArray) ∨ s = (⟨#[112]⟩ : ByteArray) ++ itoa 0 ∨ s = (⟨#[112]⟩ : ByteArray) ++ itoa 1
structure PortN (p : T_floor_Port) : Prop where
  name : PName p.Name
  x : 0 ≤ p.X ∧ p.X ≤ 100
  y : 0 ≤ p.Y ∧ p.Y ≤ 100
structure FlN (f : T_floor_Floor) : Prop where
  R : 1 ≤ f.Rows ∧ f.Rows ≤ 5
  S : 1 ≤ f.Sites ∧ f.Sites ≤ 10
  Ly : 2 ≤ f.Layers ∧ f.Layers ≤ 4
  blockL : f.Blocks.length ≤ 3
  block : All (fun _ b => BlockN f.Rows f.Sites b) f.Blocks
  wallL : f.Walls.length ≤ 3
  wall : All (fun _ w => WallN (4 * f.Sites + 8) (4 * f.Rows + 8) f.Layers w) f.Walls
  portL : f.Ports.length ≤ 5
  port : All (fun _ p => PortN p) f.Ports
theorem Size_ok {f : T_floor_Floor} (hR : 1 ≤ f.Rows ∧ f.Rows ≤ 5) (hS : 1 ≤ f.Sites ∧ f.Sites ≤ 10) : Ok (P_floor_Size f) (fun r => r = (4 * f.Sites + 8, 4 * f.Rows + 8)) := by
  unfold P_floor_Size
  exact ok_ar (by omega) (ok_ar (by omega) (ok_ar (by omega) (ok_ar (by omega) (ok_some rfl))))
theorem ports_ok {L : List Int} (hL : Strm L) {k : Int} (hk : Few (k + 100)) (hk0 : 0 ≤ k) {f : T_floor_Floor} (hR : 1 ≤ f.Rows ∧ f.Rows ≤ 5) (hS : 1 ≤ f.Sites ∧ f.Sites ≤ 10) (hP : f.Ports = []) {l : List T_floor_Port} (hl : l.length ≤ 5) (hn : All (fun _ p => PName p.Name ∧ p.X = 0 ∧ p.Y = 0) l) :
    Ok (P_maskmake_Stream_ports (T_maskmake_Stream.mk L k) f l) (fun r => (k ≤ r.1 ∧ r.1 ≤ k + 20) ∧ r.2.length ≤ 5 ∧ All (fun _ p => PortN p) r.2) := by
  unfold P_maskmake_Stream_ports
  refine ok_bd (Size_ok hR hS) ?_
  rintro _ rfl
  refine ok_bd (hL.next (by omega) (by omega)) ?_
  rintro ⟨q, k1⟩ ⟨q0, q1, -, rfl⟩
  have q1 := q1 (by omega)
  simp only at q0 q1
  refine ok_bd (R := fun r => (k ≤ r.1 ∧ r.1 ≤ k + 20) ∧ r.2.length ≤ 5 ∧ All (fun _ p => PortN p) r.2) ?_ fun r hr => ok_some hr
  refine ok_lp (fun s => (0 ≤ s.2.1 ∧ s.2.1 ≤ l.length) ∧ (0 ≤ s.1 ∧ s.1 ≤ 3 + 200 * s.2.1) ∧ (k ≤ s.2.2.1 ∧ s.2.2.1 ≤ k + 1 + s.2.1) ∧ (s.2.2.2.length : Int) = s.2.1 ∧ All (fun _ p => PortN p) s.2.2.2) (fun s => ((l.length : Int) - s.2.1).toNat) ⟨⟨by simp, by simp only; omega⟩, by simp only; omega, by simp only; omega, by simp [hP], by simp only [hP]; exact All.nil⟩ (by simp only; omega) ?_
  rintro ⟨c, y, j, ps⟩ ⟨⟨y0, y1⟩, c1, j1, p1, p2⟩
  simp only at y0 y1 c1 j1 p1 p2
  unfold P_maskmake_Stream_ports_L3
  dsimp only
  refine ok_ite (fun hlt => ?_) fun hge => ok_some ⟨by simp only; omega, by simp only; omega, p2⟩
  obtain ⟨hN, hX, hY⟩ := hn y ⟨y0, hlt⟩
  refine ok_ck ⟨y0, hlt⟩ (ok_lv (ok_ar (by omega) (ok_ar (by omega) (ok_bd (R := fun r => (0 ≤ r.1 ∧ r.1 ≤ 100) ∧ 0 ≤ r.2 ∧ r.2 ≤ 100) (ok_ite (fun h1 => ok_some ⟨by simp only; omega, by simp only; omega⟩) fun h1 => ok_ar (by omega) (ok_bd (R := fun r => (0 ≤ r.1 ∧ r.1 ≤ 100) ∧ 0 ≤ r.2 ∧ r.2 ≤ 100) (ok_ite (fun h2 => ok_ar (by omega) (ok_ar (by omega) (ok_some ⟨by simp only; omega, by simp only; omega⟩))) fun h2 => ok_ar (by omega) (ok_ar (by omega) (ok_bd (R := fun r => (0 ≤ r.1 ∧ r.1 ≤ 100) ∧ 0 ≤ r.2 ∧ r.2 ≤ 100) (ok_ite (fun h3 => ok_ar (by omega) (ok_ar (by omega) (ok_ar (by omega) (ok_ar (by omega) (ok_ar (by omega) (ok_some ⟨by simp only; omega, by simp only; omega⟩)))))) fun h3 => ok_ar (by omega) (ok_ar (by omega) (ok_lv (ok_some ⟨by simp only; omega, by simp only; omega⟩)))) fun r hr => ok_some hr))) fun r hr => ok_some hr)) ?_))))
  rintro ⟨X, Y⟩ ⟨x1, y2⟩
  simp only at x1 y2
  refine ok_lv (ok_ck (by simp only [apOk, List.length_append, List.length_singleton]; omega) (ok_ar (by omega) (ok_ck (by omega) ?_)))
  have hb := Int.tdiv_nonneg (a := 2 * (4 * f.Sites + 8 + (4 * f.Rows + 8))) (b := (l.length : Int) + 1) (by omega) (by omega)
  have hb2 := Int.tdiv_le_self (a := 2 * (4 * f.Sites + 8 + (4 * f.Rows + 8))) ((l.length : Int) + 1) (by omega)
  refine ok_ar (by omega) (ok_ar (by omega) (ok_lv (ok_bd (hL.next (by omega) (by omega)) ?_)))
  rintro ⟨e, j2⟩ ⟨e0, e1, e2, rfl⟩
  have e1 := e1 (by omega)
  simp only at e0 e1
  exact ok_ar (by omega) (ok_ar (by omega) (ok_ar (by omega) (ok_some ⟨⟨⟨by simp only; omega, by simp only; omega⟩, by simp only; omega, by simp only; omega, by simp only [List.length_append, List.length_singleton]; omega, p2.snoc ⟨hN, x1, y2⟩⟩, by simp only; omega⟩)))
theorem Floor_ok {L : List Int} (hL : Strm L) {k : Int} (hk : Few (k + 5000)) (hk0 : 0 ≤ k) : Ok (P_maskmake_Stream_Floor (T_maskmake_Stream.mk L k)) (fun r => FlN r.1 ∧ k ≤ r.2 ∧ r.2 ≤ k + 500) := by
  unfold P_maskmake_Stream_Floor
  refine ok_bd (hL.range (by omega) (by omega) (by omega) (by omega)) ?_
  rintro ⟨R, k1⟩ ⟨r0, r1, rfl⟩
  refine ok_bd (hL.range (by simp only; omega) (by omega) (by omega) (by omega)) ?_
  rintro ⟨S, k1⟩ ⟨s0, s1, rfl⟩
  refine ok_bd (hL.range (by simp only; omega) (by omega) (by omega) (by omega)) ?_
  rintro ⟨Y, k1⟩ ⟨y0, y1, rfl⟩
  simp only at r0 r1 s0 s1 y0 y1
  have hR : 1 ≤ R ∧ R ≤ 5 := ⟨r0, r1⟩
  have hS : 1 ≤ S ∧ S ≤ 10 := ⟨s0, s1⟩
  have hY : 2 ≤ Y ∧ Y ≤ 4 := ⟨y0, y1⟩
  refine ok_bd (Size_ok (f := T_floor_Floor.mk R S Y [] [] []) hR hS) ?_
  rintro _ rfl
  refine ok_bd (hL.next (by simp only; omega) (by omega)) ?_
  rintro ⟨m, k2⟩ ⟨m0, m1, -, rfl⟩
  have m1 := m1 (by omega)
  simp only at m0 m1
  refine ok_bd (R := fun r => (k ≤ r.1 ∧ r.1 ≤ k + 60) ∧ r.2.length ≤ 3 ∧ All (fun _ b => BlockN R S b) r.2) ?_ ?_
  · refine ok_lp (fun s => (0 ≤ s.1 ∧ s.1 ≤ m) ∧ (k ≤ s.2.1 ∧ s.2.1 ≤ k + 5 + 5 * s.1) ∧ (s.2.2.length : Int) = s.1 ∧ All (fun _ b => BlockN R S b) s.2.2) (fun s => (m - s.1).toNat) ⟨⟨by simp, by simp only; omega⟩, by simp only; omega, by simp, All.nil⟩ (by simp only; omega) ?_
    rintro ⟨y, q, xs⟩ ⟨⟨z0, z1⟩, z2, z3, z4⟩
    simp only at z0 z1 z2 z3 z4
    unfold P_maskmake_Stream_Floor_L4
    dsimp only
    refine ok_ite (fun hlt => ?_) fun hge => ok_some ⟨by simp only; omega, by simp only; omega, z4⟩
    refine ok_bd (hL.next (by omega) (by omega)) ?_
    rintro ⟨a, q1⟩ ⟨a0, a1, -, rfl⟩
    have a1 := a1 (by omega)
    refine ok_bd (hL.next (by simp only; omega) (by omega)) ?_
    rintro ⟨b, q1⟩ ⟨b0, b1, -, rfl⟩
    have b1 := b1 (by omega)
    simp only at a0 a1 b0 b1
    refine ok_ar (by omega) (ok_bd (hL.range (by simp only; omega) (by omega) (by omega) (by omega)) ?_)
    rintro ⟨c, q1⟩ ⟨c0, c1, rfl⟩
    simp only at c0 c1
    exact ok_lv (ok_ck (by simp only [apOk, List.length_append, List.length_singleton]; omega) (ok_ar (by omega) (ok_some ⟨⟨⟨by simp only; omega, by simp only; omega⟩, by simp only; omega, by simp only [List.length_append, List.length_singleton]; omega, z4.snoc ⟨⟨b0, b1⟩, ⟨a0, by simp only; omega, c1⟩⟩⟩, by simp only; omega⟩)))
  rintro ⟨k3, bs⟩ ⟨p1, p2, hbs⟩
  simp only at p1 p2 hbs
  refine ok_bd (hL.next (by omega) (by omega)) ?_
  rintro ⟨m, k4⟩ ⟨m0, m1, -, rfl⟩
  have m1 := m1 (by omega)
  simp only at m0 m1
  refine ok_bd (R := fun r => (k ≤ r.1 ∧ r.1 ≤ k + 150) ∧ r.2.length ≤ 3 ∧ All (fun _ w => WallN (4 * S + 8) (4 * R + 8) Y w) r.2) ?_ ?_
  · refine ok_lp (fun s => (0 ≤ s.1 ∧ s.1 ≤ m) ∧ (k ≤ s.2.1 ∧ s.2.1 ≤ k + 61 + 10 * s.1) ∧ (s.2.2.length : Int) = s.1 ∧ All (fun _ w => WallN (4 * S + 8) (4 * R + 8) Y w) s.2.2) (fun s => (m - s.1).toNat) ⟨⟨by simp, by simp only; omega⟩, by simp only; omega, by simp, All.nil⟩ (by simp only; omega) ?_
    rintro ⟨y, q, xs⟩ ⟨⟨z0, z1⟩, z2, z3, z4⟩
    simp only at z0 z1 z2 z3 z4
    unfold P_maskmake_Stream_Floor_L9
    dsimp only
    refine ok_ite (fun hlt => ?_) fun hge => ok_some ⟨by simp only; omega, by simp only; omega, z4⟩
    refine ok_bd (hL.next (by omega) (by omega)) ?_
    rintro ⟨a, q1⟩ ⟨a0, a1, -, rfl⟩
    have a1 := a1 (by omega)
    refine ok_bd (hL.next (by simp only; omega) (by omega)) ?_
    rintro ⟨b, q1⟩ ⟨b0, b1, -, rfl⟩
    have b1 := b1 (by omega)
    refine ok_bd (hL.next (by simp only; omega) (by omega)) ?_
    rintro ⟨c, q1⟩ ⟨c0, c1, -, rfl⟩
    have c1 := c1 (by omega)
    simp only at a0 a1 b0 b1 c0 c1
    refine ok_ar (by omega) (ok_bd (hL.next (by simp only; omega) (by omega)) ?_)
    rintro ⟨d, q1⟩ ⟨d0, d1, -, rfl⟩
    have d1 := d1 (by omega)
    simp only at d0 d1
    refine ok_ar (by omega) (ok_lv (ok_ar (by omega) (ok_bd (hL.next (by simp only; omega) (by omega)) ?_)))
    rintro ⟨e, q1⟩ ⟨e0, e1, -, rfl⟩
    have e1 := e1 (by omega)
    simp only at e0 e1
    exact ok_ar (by omega) (ok_lv (ok_lv (ok_ck (by simp only [apOk, List.length_append, List.length_singleton]; omega) (ok_ar (by omega) (ok_some ⟨⟨⟨by simp only; omega, by simp only; omega⟩, by simp only; omega, by simp only [List.length_append, List.length_singleton]; omega, z4.snoc ⟨⟨c0, c1⟩, ⟨a0, by simp only; omega, by simp only; omega⟩, ⟨b0, by simp only; omega, by simp only; omega⟩⟩⟩, by simp only; omega⟩)))))
  rintro ⟨k5, ws⟩ ⟨p3, p4, hws⟩
  simp only at p3 p4 hws
  refine ok_bd (hL.next (by omega) (by omega)) ?_
  rintro ⟨m, k6⟩ ⟨m0, m1, -, rfl⟩
  have m1 := m1 (by omega)
  simp only at m0 m1
  refine ok_bd (R := fun r => r.length ≤ 4 ∧ All (fun _ p => PName p.Name ∧ p.X = 0 ∧ p.Y = 0) r) ?_ ?_
  · refine ok_lp (fun s => (0 ≤ s.2 ∧ s.2 ≤ m) ∧ (s.1.length : Int) = s.2 ∧ All (fun _ p => PName p.Name ∧ p.X = 0 ∧ p.Y = 0) s.1) (fun s => (m - s.2).toNat) ⟨⟨by simp, by simp only; omega⟩, by simp, All.nil⟩ (by simp only; omega) ?_
    rintro ⟨xs, y⟩ ⟨⟨z0, z1⟩, z3, z4⟩
    simp only at z0 z1 z3 z4
    unfold P_maskmake_Stream_Floor_L15
    dsimp only
    refine ok_ite (fun hlt => ?_) fun hge => ok_some ⟨by omega, z4⟩
    have hd : Int.tdiv y 2 = 0 ∨ Int.tdiv y 2 = 1 := by
      rcases (by omega : y = 0 ∨ y = 1 ∨ y = 2 ∨ y = 3) with rfl | rfl | rfl | rfl <;> decide
    refine ok_ck (by omega) (ok_ar (by omega) (ok_bd (itoaP_ok (by omega) (by omega)) ?_))
    rintro _ rfl
    have hz : (itoa (Int.tdiv y 2)).size ≤ 3 := Nat.le_succ_of_le (itoa_size (n := Int.tdiv y 2) (by omega) (by omega))
    refine ok_ck (by simp only [ByteArray.size_append, sz_lit, List.size_toArray, List.length_cons, List.length_nil]; omega) (ok_ck (by omega) (ok_lv (ok_lv (ok_ck (by simp only [apOk, List.length_append, List.length_singleton]; omega) (ok_ar (by omega) (ok_some ⟨⟨⟨by simp only; omega, by simp only; omega⟩, by simp only [List.length_append, List.length_singleton]; omega, z4.snoc ⟨?_, rfl, rfl⟩⟩, by simp only; omega⟩))))))
    simp only
    rcases hd with e | e <;> rw [e]
    · exact .inr (.inl rfl)
    · exact .inr (.inr rfl)
  rintro l ⟨l1, l2⟩
  refine ok_bd (hL.flip (by omega) (by omega)) ?_
  rintro ⟨fl, k7⟩ hq
  simp only at hq
  subst hq
  refine ok_bd (R := fun r => r.length ≤ 5 ∧ All (fun _ p => PName p.Name ∧ p.X = 0 ∧ p.Y = 0) r) (ok_ite (fun _ => ok_lv (ok_ck (by simp only [apOk, List.length_append, List.length_singleton]; omega) (ok_some ⟨by simp only [List.length_append, List.length_singleton]; omega, l2.snoc ⟨.inl rfl, rfl, rfl⟩⟩))) fun _ => ok_some ⟨by omega, l2⟩) ?_
  rintro l' ⟨l3, l4⟩
  refine ok_bd (ports_ok hL (by simp only; omega) (by simp only; omega) (f := T_floor_Floor.mk R S Y bs ws []) hR hS rfl l3 l4) ?_
  rintro ⟨k8, ps⟩ ⟨u1, u2, u3⟩
  simp only at u1 u2 u3
  exact ok_some ⟨⟨hR, hS, hY, p2, hbs, p4, hws, u2, u3⟩, by simp only; omega, by simp only; omega⟩
theorem fwithin_any (n a b : Int) : Ok (P_floor_within n a b) (fun r => r = (decide (a ≤ n) && decide (n ≤ b))) := by
  unfold P_floor_within
  exact ok_lv (ok_some rfl)
theorem fok_wi {β : Type} {n a b : Int} {k : Bool → Option β} {Q : β → Prop} (h : a ≤ n ∧ n ≤ b) (hk : Ok (k true) Q) : Ok (bd (P_floor_within n a b) k) Q := ok_bd (fwithin_any n a b) (by rintro _ rfl; rw [decide_eq_true h.1, decide_eq_true h.2]; exact hk)
theorem fok_gw {β : Type} {n a b : Int} {q : Bool} {k : Bool → Option β} {Q : β → Prop} (hq : q = true) (h : a ≤ n ∧ n ≤ b) (hk : Ok (k true) Q) : Ok (bd (gd q (P_floor_within n a b)) k) Q := by
  subst hq
  exact fok_wi h hk
end Go.Proofs.YtfkncjfpgflafaaDoor.X
