/- Floors of a stream (LD's texts, without those of layouts). Plain. -/
/- floor.Check of a drawn floor without ports. Plain. -/
/- The regions of a floor, their borders and rooms. Plain. -/
import Derived.Test.YtgmjhlpjlggpiaaDoorPA
import Derived.Test.YtgmjhlpjlggpiaaDoorHP
namespace Go.Proofs.YtgmjhlpjlggpiaaDoor.X
open Go Go.RowKit
set_option linter.unusedVariables false
set_option linter.unusedSimpArgs false
set_option linter.unusedSectionVars false
theorem gt_snoc' {α : Type} [Inhabited α] {xs : List α} {x : α} {i : Int} (h : inb i (xs ++ [x]).length) : (inb i xs.length ∧ gt (xs ++ [x]) i = gt xs i) ∨ (i = xs.length ∧ gt (xs ++ [x]) i = x) := by
  obtain ⟨h0, h1⟩ := h
  simp only [List.length_append, List.length_singleton] at h1
  by_cases e : i = xs.length
  · exact .inr ⟨e, gt_app_1 e⟩
  · exact .inl ⟨⟨h0, by omega⟩, gt_app_l (by omega)⟩
def All {α : Type} [Inhabited α] (p : Int → α → Prop) (xs : List α) : Prop := ∀ i, inb i xs.length → p i (gt xs i)
theorem All.nil {α : Type} [Inhabited α] {p : Int → α → Prop} : All p [] := fun i hi => by obtain ⟨a, b⟩ := hi; simp at b; omega
theorem All.snoc {α : Type} [Inhabited α] {p : Int → α → Prop} {xs : List α} {x : α} (h : All p xs) (hx : p xs.length x) : All p (xs ++ [x]) := by
  intro i hi
  rcases gt_snoc' hi with ⟨h1, e⟩ | ⟨h1, e⟩
  · rw [e]; exact h i h1
  · rw [e, h1]; exact hx
theorem All.mono {α : Type} [Inhabited α] {p q : Int → α → Prop} {xs : List α} (h : All p xs) (hpq : ∀ i x, inb i xs.length → p i x → q i x) : All q xs := fun i hi => hpq i _ hi (h i hi)
structure WallN (W H Ly : Int) (w : T_floor_Wall) : Prop where
  layer : 0 ≤ w.Layer ∧ w.Layer < Ly
  x : 0 ≤ w.X0 ∧ w.X0 ≤ w.X1 ∧ w.X1 < W
  y : 0 ≤ w.Y0 ∧ w.Y0 ≤ w.Y1 ∧ w.Y1 < H
theorem itoaP_ok {n : Int} (h0 : 0 ≤ n) (h1 : n ≤ 200) : Ok (P_strconv_Itoa n) (fun r => r = itoa n) := by
  unfold P_strconv_Itoa
  exact ok_ck ⟨h0, by omega⟩ (ok_some rfl)
theorem decDigits_size : ((List.range 100).all fun n => decide ((Go.Lib.decDigits n).length ≤ 2)) = true := by decide +kernel
theorem sz_lit (a : Array UInt8) : (⟨a⟩ : ByteArray).size = a.size := rfl
theorem itoa_size {n : Int} (h0 : 0 ≤ n) (h1 : n < 100) : (itoa n).size ≤ 2 := by
  have := List.all_eq_true.1 decDigits_size n.toNat (List.mem_range.2 (by omega))
  simp only [decide_eq_true_eq] at this
  simpa [itoa, ByteArray.size] using this
structure BlockN (R S : Int) (b : T_floor_Block) : Prop where
  row : 0 ≤ b.Row ∧ b.Row < R
  x : 0 ≤ b.From ∧ b.From < b.To ∧ b.To ≤ S
def PName (s : ByteArray) : Prop := s = (⟨#[]⟩ : ByteArray) ∨ s = (⟨#[112]⟩ : ByteArray) ++ itoa 0 ∨ s = (⟨#[112]⟩ : ByteArray) ++ itoa 1
structure PortN (p : T_floor_Port) : Prop where
  name : PName p.Name
  x : 0 ≤ p.X ∧ p.X ≤ 100
  y : 0 ≤ p.Y ∧ p.Y ≤ 100
structure FlN (f : T_floor_Floor) : Prop where
  R : 1 ≤ f.Rows ∧ f.Rows ≤ 5
  S : 1 ≤ f.Sites ∧ f.Sites ≤ 10
  Ly : 2 ≤ f.Layers ∧ f.Layers ≤ 4
  blockL : f.Blocks.length ≤ 3
  block : All (fun _ b => BlockN f.Rows f.Sites b) f.Blocks
  wallL : f.Walls.length ≤ 3
  wall : All (fun _ w => WallN (4 * f.Sites + 8) (4 * f.Rows + 8) f.Layers w) f.Walls
  portL : f.Ports.length ≤ 5
  port : All (fun _ p => PortN p) f.Ports
theorem Size_ok {f : T_floor_Floor} (hR : 1 ≤ f.Rows ∧ f.Rows ≤ 5) (hS : 1 ≤ f.Sites ∧ f.Sites ≤ 10) : Ok (P_floor_Size f) (fun r => r = (4 * f.Sites + 8, 4 * f.Rows + 8)) := by
  unfold P_floor_Size
  exact ok_ar (by omega) (ok_ar (by omega) (ok_ar (by omega) (ok_ar (by omega) (ok_some rfl))))
theorem ports_ok {L : List Int} (hL : Strm L) {k : Int} (hk : Few (k + 100)) (hk0 : 0 ≤ k) {f : T_floor_Floor} (hR : 1 ≤ f.Rows ∧ f.Rows ≤ 5) (hS : 1 ≤ f.Sites ∧ f.Sites ≤ 10) (hP : f.Ports = []) {l : List T_floor_Port} (hl : l.length ≤ 5) (hn : All (fun _ p => PName p.Name ∧ p.X = 0 ∧ p.Y = 0) l) :
    Ok (P_maskmake_Stream_ports (T_maskmake_Stream.mk L k) f l) (fun r => (k ≤ r.1 ∧ r.1 ≤ k + 20) ∧ r.2.length ≤ 5 ∧ All (fun _ p => PortN p) r.2) := by
  unfold P_maskmake_Stream_ports
  refine ok_bd (Size_ok hR hS) ?_
  rintro _ rfl
  refine ok_bd (hL.next (by omega) (by omega)) ?_
  rintro ⟨q, k1⟩ ⟨q0, q1, -, rfl⟩
  have q1 := q1 (by omega)
  simp only at q0 q1
  refine ok_bd (R := fun r => (k ≤ r.1 ∧ r.1 ≤ k + 20) ∧ r.2.length ≤ 5 ∧ All (fun _ p => PortN p) r.2) ?_ fun r hr => ok_some hr
  refine ok_lp (fun s => (0 ≤ s.2.1 ∧ s.2.1 ≤ l.length) ∧ (0 ≤ s.1 ∧ s.1 ≤ 3 + 200 * s.2.1) ∧ (k ≤ s.2.2.1 ∧ s.2.2.1 ≤ k + 1 + s.2.1) ∧ (s.2.2.2.length : Int) = s.2.1 ∧ All (fun _ p => PortN p) s.2.2.2) (fun s => ((l.length : Int) - s.2.1).toNat) ⟨⟨by simp, by simp only; omega⟩, by simp only; omega, by simp only; omega, by simp [hP], by simp only [hP]; exact All.nil⟩ (by simp only; omega) ?_
  rintro ⟨c, y, j, ps⟩ ⟨⟨y0, y1⟩, c1, j1, p1, p2⟩
  simp only at y0 y1 c1 j1 p1 p2
  unfold P_maskmake_Stream_ports_L3
  dsimp only
  refine ok_ite (fun hlt => ?_) fun hge => ok_some ⟨by simp only; omega, by simp only; omega, p2⟩
  obtain ⟨hN, hX, hY⟩ := hn y ⟨y0, hlt⟩
  refine ok_ck ⟨y0, hlt⟩ (ok_lv (ok_ar (by omega) (ok_ar (by omega) (ok_bd (R := fun r => (0 ≤ r.1 ∧ r.1 ≤ 100) ∧ 0 ≤ r.2 ∧ r.2 ≤ 100) (ok_ite (fun h1 => ok_some ⟨by simp only; omega, by simp only; omega⟩) fun h1 => ok_ar (by omega) (ok_bd (R := fun r => (0 ≤ r.1 ∧ r.1 ≤ 100) ∧ 0 ≤ r.2 ∧ r.2 ≤ 100) (ok_ite (fun h2 => ok_ar (by omega) (ok_ar (by omega) (ok_some ⟨by simp only; omega, by simp only; omega⟩))) fun h2 => ok_ar (by omega) (ok_ar (by omega) (ok_bd (R := fun r => (0 ≤ r.1 ∧ r.1 ≤ 100) ∧ 0 ≤ r.2 ∧ r.2 ≤ 100) (ok_ite (fun h3 => ok_ar (by omega) (ok_ar (by omega) (ok_ar (by omega) (ok_ar (by omega) (ok_ar (by omega) (ok_some ⟨by simp only; omega, by simp only; omega⟩)))))) fun h3 => ok_ar (by omega) (ok_ar (by omega) (ok_lv (ok_some ⟨by simp only; omega, by simp only; omega⟩)))) fun r hr => ok_some hr))) fun r hr => ok_some hr)) ?_))))
  rintro ⟨X, Y⟩ ⟨x1, y2⟩
  simp only at x1 y2
  refine ok_lv (ok_ck (by simp only [apOk, List.length_append, List.length_singleton]; omega) (ok_ar (by omega) (ok_ck (by omega) ?_)))
  have hb := Int.tdiv_nonneg (a := 2 * (4 * f.Sites + 8 + (4 * f.Rows + 8))) (b := (l.length : Int) + 1) (by omega) (by omega)
  have hb2 := Int.tdiv_le_self (a := 2 * (4 * f.Sites + 8 + (4 * f.Rows + 8))) ((l.length : Int) + 1) (by omega)
  refine ok_ar (by omega) (ok_ar (by omega) (ok_lv (ok_bd (hL.next (by omega) (by omega)) ?_)))
  rintro ⟨e, j2⟩ ⟨e0, e1, e2, rfl⟩
  have e1 := e1 (by omega)
  simp only at e0 e1
  exact ok_ar (by omega) (ok_ar (by omega) (ok_ar (by omega) (ok_some ⟨⟨⟨by simp only; omega, by simp only; omega⟩, by simp only; omega, by simp only; omega, by simp only [List.length_append, List.length_singleton]; omega, p2.snoc ⟨hN, x1, y2⟩⟩, by simp only; omega⟩)))
theorem Floor_ok {L : List Int} (hL : Strm L) {k : Int} (hk : Few (k + 5000)) (hk0 : 0 ≤ k) : Ok (P_maskmake_Stream_Floor (T_maskmake_Stream.mk L k)) (fun r => FlN r.1 ∧ k ≤ r.2 ∧ r.2 ≤ k + 500) := by
  unfold P_maskmake_Stream_Floor
  refine ok_bd (hL.range (by omega) (by omega) (by omega) (by omega)) ?_
  rintro ⟨R, k1⟩ ⟨r0, r1, rfl⟩
  refine ok_bd (hL.range (by simp only; omega) (by omega) (by omega) (by omega)) ?_
  rintro ⟨S, k1⟩ ⟨s0, s1, rfl⟩
  refine ok_bd (hL.range (by simp only; omega) (by omega) (by omega) (by omega)) ?_
  rintro ⟨Y, k1⟩ ⟨y0, y1, rfl⟩
  simp only at r0 r1 s0 s1 y0 y1
  have hR : 1 ≤ R ∧ R ≤ 5 := ⟨r0, r1⟩
  have hS : 1 ≤ S ∧ S ≤ 10 := ⟨s0, s1⟩
  have hY : 2 ≤ Y ∧ Y ≤ 4 := ⟨y0, y1⟩
  refine ok_bd (Size_ok (f := T_floor_Floor.mk R S Y [] [] []) hR hS) ?_
  rintro _ rfl
  refine ok_bd (hL.next (by simp only; omega) (by omega)) ?_
  rintro ⟨m, k2⟩ ⟨m0, m1, -, rfl⟩
  have m1 := m1 (by omega)
  simp only at m0 m1
  refine ok_bd (R := fun r => (k ≤ r.1 ∧ r.1 ≤ k + 60) ∧ r.2.length ≤ 3 ∧ All (fun _ b => BlockN R S b) r.2) ?_ ?_
  · refine ok_lp (fun s => (0 ≤ s.1 ∧ s.1 ≤ m) ∧ (k ≤ s.2.1 ∧ s.2.1 ≤ k + 5 + 5 * s.1) ∧ (s.2.2.length : Int) = s.1 ∧ All (fun _ b => BlockN R S b) s.2.2) (fun s => (m - s.1).toNat) ⟨⟨by simp, by simp only; omega⟩, by simp only; omega, by simp, All.nil⟩ (by simp only; omega) ?_
    rintro ⟨y, q, xs⟩ ⟨⟨z0, z1⟩, z2, z3, z4⟩
    simp only at z0 z1 z2 z3 z4
    unfold P_maskmake_Stream_Floor_L4
    dsimp only
    refine ok_ite (fun hlt => ?_) fun hge => ok_some ⟨by simp only; omega, by simp only; omega, z4⟩
    refine ok_bd (hL.next (by omega) (by omega)) ?_
    rintro ⟨a, q1⟩ ⟨a0, a1, -, rfl⟩
    have a1 := a1 (by omega)
    refine ok_bd (hL.next (by simp only; omega) (by omega)) ?_
    rintro ⟨b, q1⟩ ⟨b0, b1, -, rfl⟩
    have b1 := b1 (by omega)
    simp only at a0 a1 b0 b1
    refine ok_ar (by omega) (ok_bd (hL.range (by simp only; omega) (by omega) (by omega) (by omega)) ?_)
    rintro ⟨c, q1⟩ ⟨c0, c1, rfl⟩
    simp only at c0 c1
    exact ok_lv (ok_ck (by simp only [apOk, List.length_append, List.length_singleton]; omega) (ok_ar (by omega) (ok_some ⟨⟨⟨by simp only; omega, by simp only; omega⟩, by simp only; omega, by simp only [List.length_append, List.length_singleton]; omega, z4.snoc ⟨⟨b0, b1⟩, ⟨a0, by simp only; omega, c1⟩⟩⟩, by simp only; omega⟩)))
  rintro ⟨k3, bs⟩ ⟨p1, p2, hbs⟩
  simp only at p1 p2 hbs
  refine ok_bd (hL.next (by omega) (by omega)) ?_
  rintro ⟨m, k4⟩ ⟨m0, m1, -, rfl⟩
  have m1 := m1 (by omega)
  simp only at m0 m1
  refine ok_bd (R := fun r => (k ≤ r.1 ∧ r.1 ≤ k + 150) ∧ r.2.length ≤ 3 ∧ All (fun _ w => WallN (4 * S + 8) (4 * R + 8) Y w) r.2) ?_ ?_
  · refine ok_lp (fun s => (0 ≤ s.1 ∧ s.1 ≤ m) ∧ (k ≤ s.2.1 ∧ s.2.1 ≤ k + 61 + 10 * s.1) ∧ (s.2.2.length : Int) = s.1 ∧ All (fun _ w => WallN (4 * S + 8) (4 * R + 8) Y w) s.2.2) (fun s => (m - s.1).toNat) ⟨⟨by simp, by simp only; omega⟩, by simp only; omega, by simp, All.nil⟩ (by simp only; omega) ?_
    rintro ⟨y, q, xs⟩ ⟨⟨z0, z1⟩, z2, z3, z4⟩
    simp only at z0 z1 z2 z3 z4
    unfold P_maskmake_Stream_Floor_L9
    dsimp only
    refine ok_ite (fun hlt => ?_) fun hge => ok_some ⟨by simp only; omega, by simp only; omega, z4⟩
    refine ok_bd (hL.next (by omega) (by omega)) ?_
    rintro ⟨a, q1⟩ ⟨a0, a1, -, rfl⟩
    have a1 := a1 (by omega)
    refine ok_bd (hL.next (by simp only; omega) (by omega)) ?_
    rintro ⟨b, q1⟩ ⟨b0, b1, -, rfl⟩
    have b1 := b1 (by omega)
    refine ok_bd (hL.next (by simp only; omega) (by omega)) ?_
    rintro ⟨c, q1⟩ ⟨c0, c1, -, rfl⟩
    have c1 := c1 (by omega)
    simp only at a0 a1 b0 b1 c0 c1
    refine ok_ar (by omega) (ok_bd (hL.next (by simp only; omega) (by omega)) ?_)
    rintro ⟨d, q1⟩ ⟨d0, d1, -, rfl⟩
    have d1 := d1 (by omega)
    simp only at d0 d1
    refine ok_ar (by omega) (ok_lv (ok_ar (by omega) (ok_bd (hL.next (by simp only; omega) (by omega)) ?_)))
    rintro ⟨e, q1⟩ ⟨e0, e1, -, rfl⟩
    have e1 := e1 (by omega)
    simp only at e0 e1
    exact ok_ar (by omega) (ok_lv (ok_lv (ok_ck (by simp only [apOk, List.length_append, List.length_singleton]; omega) (ok_ar (by omega) (ok_some ⟨⟨⟨by simp only; omega, by simp only; omega⟩, by simp only; omega, by simp only [List.length_append, List.length_singleton]; omega, z4.snoc ⟨⟨c0, c1⟩, ⟨a0, by simp only; omega, by simp only; omega⟩, ⟨b0, by simp only; omega, by simp only; omega⟩⟩⟩, by simp only; omega⟩)))))
  rintro ⟨k5, ws⟩ ⟨p3, p4, hws⟩
  simp only at p3 p4 hws
  refine ok_bd (hL.next (by omega) (by omega)) ?_
  rintro ⟨m, k6⟩ ⟨m0, m1, -, rfl⟩
  have m1 := m1 (by omega)
  simp only at m0 m1
  refine ok_bd (R := fun r => r.length ≤ 4 ∧ All (fun _ p => PName p.Name ∧ p.X = 0 ∧ p.Y = 0) r) ?_ ?_
  · refine ok_lp (fun s => (0 ≤ s.2 ∧ s.2 ≤ m) ∧ (s.1.length : Int) = s.2 ∧ All (fun _ p => PName p.Name ∧ p.X = 0 ∧ p.Y = 0) s.1) (fun s => (m - s.2).toNat) ⟨⟨by simp, by simp only; omega⟩, by simp, All.nil⟩ (by simp only; omega) ?_
    rintro ⟨xs, y⟩ ⟨⟨z0, z1⟩, z3, z4⟩
    simp only at z0 z1 z3 z4
    unfold P_maskmake_Stream_Floor_L15
    dsimp only
    refine ok_ite (fun hlt => ?_) fun hge => ok_some ⟨by omega, z4⟩
    have hd : Int.tdiv y 2 = 0 ∨ Int.tdiv y 2 = 1 := by
      rcases (by omega : y = 0 ∨ y = 1 ∨ y = 2 ∨ y = 3) with rfl | rfl | rfl | rfl <;> decide
    refine ok_ck (by omega) (ok_ar (by omega) (ok_bd (itoaP_ok (by omega) (by omega)) ?_))
    rintro _ rfl
    have hz : (itoa (Int.tdiv y 2)).size ≤ 3 := Nat.le_succ_of_le (itoa_size (n := Int.tdiv y 2) (by omega) (by omega))
    refine ok_ck (by simp only [ByteArray.size_append, sz_lit, List.size_toArray, List.length_cons, List.length_nil]; omega) (ok_ck (by omega) (ok_lv (ok_lv (ok_ck (by simp only [apOk, List.length_append, List.length_singleton]; omega) (ok_ar (by omega) (ok_some ⟨⟨⟨by simp only; omega, by simp only; omega⟩, by simp only [List.length_append, List.length_singleton]; omega, z4.snoc ⟨?_, rfl, rfl⟩⟩, by simp only; omega⟩))))))
    simp only
    rcases hd with e | e <;> rw [e]
    · exact .inr (.inl rfl)
    · exact .inr (.inr rfl)
  rintro l ⟨l1, l2⟩
  refine ok_bd (hL.flip (by omega) (by omega)) ?_
  rintro ⟨fl, k7⟩ hq
  simp only at hq
  subst hq
  refine ok_bd (R := fun r => r.length ≤ 5 ∧ All (fun _ p => PName p.Name ∧ p.X = 0 ∧ p.Y = 0) r) (ok_ite (fun _ => ok_lv (ok_ck (by simp only [apOk, List.length_append, List.length_singleton]; omega) (ok_some ⟨by simp only [List.length_append, List.length_singleton]; omega, l2.snoc ⟨.inl rfl, rfl, rfl⟩⟩))) fun _ => ok_some ⟨by omega, l2⟩) ?_
  rintro l' ⟨l3, l4⟩
  refine ok_bd (ports_ok hL (by simp only; omega) (by simp only; omega) (f := T_floor_Floor.mk R S Y bs ws []) hR hS rfl l3 l4) ?_
  rintro ⟨k8, ps⟩ ⟨u1, u2, u3⟩
  simp only at u1 u2 u3
  exact ok_some ⟨⟨hR, hS, hY, p2, hbs, p4, hws, u2, u3⟩, by simp only; omega, by simp only; omega⟩
theorem fwithin_any (n a b : Int) : Ok (P_floor_within n a b) (fun r => r = (decide (a ≤ n) && decide (n ≤ b))) := by
  unfold P_floor_within
  exact ok_lv (ok_some rfl)
theorem fok_wi {β : Type} {n a b : Int} {k : Bool → Option β} {Q : β → Prop} (h : a ≤ n ∧ n ≤ b) (hk : Ok (k true) Q) : Ok (bd (P_floor_within n a b) k) Q := ok_bd (fwithin_any n a b) (by rintro _ rfl; rw [decide_eq_true h.1, decide_eq_true h.2]; exact hk)
theorem fok_gw {β : Type} {n a b : Int} {q : Bool} {k : Bool → Option β} {Q : β → Prop} (hq : q = true) (h : a ≤ n ∧ n ≤ b) (hk : Ok (k true) Q) : Ok (bd (gd q (P_floor_within n a b)) k) Q := by
  subst hq
  exact fok_wi h hk
end Go.Proofs.YtgmjhlpjlggpiaaDoor.X
namespace Go.Proofs.YtgmjhlpjlggpiaaDoor.X
open Go Go.RowKit
set_option linter.unusedVariables false
set_option linter.unusedSimpArgs false
theorem FCheck0 {f : T_floor_Floor} (hf : FlN f) (hp : f.Ports = []) : Ok (P_floor_Check f) (fun r => r = 0) := by
  have a := hf.R
  have b := hf.S
  have c := hf.Ly
  have e1 := hf.blockL
  have e2 := hf.wallL
  unfold P_floor_Check
  refine fok_wi ⟨by omega, by omega⟩ (fok_gw rfl ⟨by omega, by omega⟩ (ok_lv (fok_gw rfl ⟨by omega, by omega⟩ (ok_lv (ok_f (by simp) (ok_lv (ok_lv (ok_f (by rw [hp]; simp only [Bool.or_eq_true, decide_eq_true_eq, List.length_nil]; omega) ?_))))))))
  refine ok_bs1 (R := fun _ => True) ?_ fun _ _ => ok_bd (Size_ok a b) ?_
  · refine ok_lp (fun y => 0 ≤ y ∧ y ≤ f.Blocks.length) (fun y => ((f.Blocks.length : Int) - y).toNat) ⟨by omega, by omega⟩ (by omega) ?_
    rintro y ⟨y0, y1⟩
    unfold P_floor_Check_L6
    refine ok_ite (fun hlt => ?_) fun hge => ok_some ⟨(), rfl, trivial⟩
    have g := hf.block y ⟨y0, hlt⟩
    have gx := g.x
    have gr := g.row
    exact ok_ck ⟨y0, hlt⟩ (ok_lv (ok_ar (by omega) (fok_wi ⟨by omega, by omega⟩ (ok_ck (fun _ => by omega) (ok_lv (fok_gw rfl ⟨by omega, by omega⟩ (ok_lv (ok_ck (fun _ => by omega) (ok_lv (fok_gw rfl ⟨by omega, by omega⟩ (ok_lv (ok_f (by simp) (ok_ar (by omega) (ok_some ⟨⟨by omega, by omega⟩, by omega⟩))))))))))))))
  rintro _ rfl
  refine ok_bs1 (R := fun _ => True) ?_ fun _ _ => ok_bs1 (R := fun _ => True) ?_ fun _ _ => ok_some rfl
  · refine ok_lp (fun y => 0 ≤ y ∧ y ≤ f.Walls.length) (fun y => ((f.Walls.length : Int) - y).toNat) ⟨by omega, by omega⟩ (by omega) ?_
    rintro y ⟨y0, y1⟩
    unfold P_floor_Check_L13
    refine ok_ite (fun hlt => ?_) fun hge => ok_some ⟨(), rfl, trivial⟩
    have g := hf.wall y ⟨y0, hlt⟩
    have gx := g.x
    have gy := g.y
    have gl := g.layer
    exact ok_ck ⟨y0, hlt⟩ (ok_lv (ok_ar (by omega) (fok_wi ⟨by omega, by omega⟩ (ok_ck (fun _ => by omega) (ok_lv (fok_gw rfl ⟨by omega, by omega⟩ (ok_lv (ok_ck (fun _ => by omega) (ok_lv (fok_gw rfl ⟨by omega, by omega⟩ (ok_lv (ok_ck (fun _ => by omega) (ok_lv (fok_gw rfl ⟨by omega, by omega⟩ (ok_lv (ok_ck (fun _ => by omega) (ok_lv (fok_gw rfl ⟨by omega, by omega⟩ (ok_lv (ok_f (by simp) (ok_ar (by omega) (ok_some ⟨⟨by omega, by omega⟩, by omega⟩))))))))))))))))))))))
  · refine ok_lp (fun y => y = 0) (fun y => 0) rfl (by decide) ?_
    rintro _ rfl
    unfold P_floor_Check_L19
    exact ok_f (by rw [hp]; simp) (ok_some ⟨(), rfl, trivial⟩)
end Go.Proofs.YtgmjhlpjlggpiaaDoor.X
namespace Go.Proofs.YtgmjhlpjlggpiaaDoor.X
open Go Go.RowKit
set_option linter.unusedVariables false
set_option linter.unusedSimpArgs false
set_option linter.unusedSectionVars false
def Cc (f : T_floor_Floor) : Int := (4 * f.Sites + 15) / 8
def Rr (f : T_floor_Floor) : Int := (4 * f.Rows + 15) / 8
structure GridN (C R : Int) : Prop where
  c : 2 ≤ C ∧ C ≤ 6
  r : 2 ≤ R ∧ R ≤ 4
theorem FlN.grid {f : T_floor_Floor} (hf : FlN f) : GridN (Cc f) (Rr f) := by
  have h1 := hf.R
  have h2 := hf.S
  unfold Cc Rr
  exact ⟨by omega, by omega⟩
/-- Borders. -/
def IsE (C R : Int) (e : T_global_Edge) : Prop := 0 ≤ e.From ∧ e.To < C * R ∧ (e.To = e.From + C ∨ e.To = e.From + 1 ∧ 0 < Int.tmod e.To C)
def mkE (a b : Int) : T_global_Edge := ⟨min a b, max a b⟩
def nb (C R : Int) (a b : Int) : Prop := IsE C R (mkE a b)
theorem mkE_comm (a b : Int) : mkE a b = mkE b a := by unfold mkE; rw [Int.min_comm, Int.max_comm]
theorem mkE_inj {a b c d : Int} (h : mkE a b = mkE c d) : a = c ∧ b = d ∨ a = d ∧ b = c := by
  unfold mkE at h
  simp only [T_global_Edge.mk.injEq] at h
  omega
theorem GridN.cases {C R : Int} (h : GridN C R) {P : Int → Int → Prop} (hc : ∀ R, 2 ≤ R ∧ R ≤ 4 → P 2 R ∧ P 3 R ∧ P 4 R ∧ P 5 R ∧ P 6 R) : P C R := by
  have h1 := h.c
  have h2 := hc R h.r
  have : C = 2 ∨ C = 3 ∨ C = 4 ∨ C = 5 ∨ C = 6 := by omega
  rcases this with rfl | rfl | rfl | rfl | rfl
  · exact h2.1
  · exact h2.2.1
  · exact h2.2.2.1
  · exact h2.2.2.2.1
  · exact h2.2.2.2.2
theorem tmod_e {x c : Int} (h : 0 ≤ x) : Int.tmod x c = x % c := Int.tmod_eq_emod_of_nonneg h
/-- A border's regions. -/
theorem IsE.rng {C R : Int} (h : GridN C R) {e : T_global_Edge} (he : IsE C R e) : (0 ≤ e.From ∧ e.From < C * R) ∧ 0 ≤ e.To ∧ e.To < C * R := by
  obtain ⟨h1, h2, h3⟩ := he
  have := h.c
  omega
theorem nb.rng {C R : Int} (h : GridN C R) {a b : Int} (he : nb C R a b) : (0 ≤ a ∧ a < C * R) ∧ 0 ≤ b ∧ b < C * R := by
  have := IsE.rng h he
  simp only [mkE] at this
  omega
theorem nb.comm {C R : Int} {a b : Int} (h : nb C R a b) : nb C R b a := by unfold nb at *; rw [mkE_comm]; exact h
theorem nb_iff {C R : Int} (h : GridN C R) {k x : Int} (hk : 0 ≤ k ∧ k < C * R) : nb C R k x ↔ (0 < k % C ∧ x = k - 1) ∨ (k % C + 1 < C ∧ x = k + 1) ∨ (C ≤ k ∧ x = k - C) ∨ (k + C < C * R ∧ x = k + C) := by
  unfold nb IsE mkE
  dsimp only
  by_cases hx : 0 ≤ x
  · rw [tmod_e (by omega)]
    revert hk
    refine h.cases (P := fun C R => (0 ≤ k ∧ k < C * R) → ((0 ≤ min k x ∧ max k x < C * R ∧ (max k x = min k x + C ∨ max k x = min k x + 1 ∧ 0 < max k x % C)) ↔ (0 < k % C ∧ x = k - 1) ∨ (k % C + 1 < C ∧ x = k + 1) ∨ (C ≤ k ∧ x = k - C) ∨ (k + C < C * R ∧ x = k + C))) fun R hR => ⟨?_, ?_, ?_, ?_, ?_⟩ <;> intro hk <;> omega
  · have := h.c
    constructor
    · rintro ⟨a, _⟩; omega
    · rintro (⟨a, rfl⟩ | ⟨_, rfl⟩ | ⟨_, rfl⟩ | ⟨_, rfl⟩)
      · have := Int.emod_nonneg k (show C ≠ 0 by omega)
        have : k = 0 := by omega
        subst this; simp at a
      · omega
      · omega
      · omega
/-- Each region can be reached. -/
theorem conn_all {C R : Int} (h : GridN C R) {S : Int → Prop} (hcl : ∀ k x, S k → nb C R k x → S x) {a : Int} (ha : 0 ≤ a ∧ a < C * R) (hS : S a) : ∀ x, 0 ≤ x ∧ x < C * R → S x := by
  have hC := h.c
  have down : ∀ n : Nat, ((n : Int) < C * R) → S n → S 0 := by
    intro n
    induction n using Nat.strongRecOn with
    | _ n ih =>
      intro hn hs
      rcases Nat.eq_zero_or_pos n with rfl | hp
      · exact hs
      · by_cases q : C ≤ n
        · have := hcl n ((n : Int) - C) hs ((nb_iff h ⟨by omega, hn⟩).2 (.inr (.inr (.inl ⟨q, rfl⟩))))
          have e : (((n : Int) - C).toNat : Int) = (n : Int) - C := by omega
          exact ih ((n : Int) - C).toNat (by omega) (by omega) (by rw [e]; exact this)
        · have hm : (n : Int) % C = n := Int.emod_eq_of_lt (by omega) (by omega)
          have := hcl n ((n : Int) - 1) hs ((nb_iff h ⟨by omega, hn⟩).2 (.inl ⟨by omega, rfl⟩))
          have e : ((n - 1 : Nat) : Int) = (n : Int) - 1 := by omega
          exact ih (n - 1) (by omega) (by omega) (by rw [e]; exact this)
  have h0 : S 0 := by
    have e : ((a.toNat : Nat) : Int) = a := by omega
    exact down a.toNat (by omega) (by rw [e]; exact hS)
  have up : ∀ n : Nat, ((n : Int) < C * R) → S n := by
    intro n
    induction n using Nat.strongRecOn with
    | _ n ih =>
      intro hn
      rcases Nat.eq_zero_or_pos n with rfl | hp
      · exact h0
      · by_cases q : C ≤ n
        · have e : (((n : Int) - C).toNat : Int) = (n : Int) - C := by omega
          have := ih ((n : Int) - C).toNat (by omega) (by omega)
          rw [e] at this
          exact hcl _ n this ((nb_iff h ⟨by omega, by omega⟩).2 (.inr (.inr (.inr ⟨by omega, by omega⟩))))
        · have e : ((n - 1 : Nat) : Int) = (n : Int) - 1 := by omega
          have := ih (n - 1) (by omega) (by omega)
          rw [e] at this
          have hm : ((n : Int) - 1) % C = (n : Int) - 1 := Int.emod_eq_of_lt (by omega) (by omega)
          exact hcl _ n this ((nb_iff h ⟨by omega, by omega⟩).2 (.inr (.inl ⟨by omega, by omega⟩)))
  intro x hx
  have e : ((x.toNat : Nat) : Int) = x := by omega
  rw [← e]; exact up x.toNat (by omega)
theorem GridN.le {C R : Int} (h : GridN C R) : 4 ≤ C * R ∧ C * R ≤ 24 :=
  h.cases (P := fun C R => 4 ≤ C * R ∧ C * R ≤ 24) fun R hR => ⟨by omega, by omega, by omega, by omega, by omega⟩
/-! the functions -/
section
variable {f : T_floor_Floor} (hf : FlN f)
include hf
theorem Grid_ok : Ok (P_global_Grid f) (fun r => r = (Cc f, Rr f)) := by
  have hR := hf.R
  have hS := hf.S
  unfold P_global_Grid
  refine ok_bd (Size_ok hR hS) ?_
  rintro _ rfl
  dsimp only
  refine ok_ar (by omega) (ok_ar (by omega) (ok_ck (by decide) ?_))
  rw [Int.tdiv_eq_ediv_of_nonneg (by omega)]
  refine ok_ar (by omega) (ok_ar (by omega) (ok_ar (by omega) (ok_ck (by decide) ?_)))
  rw [Int.tdiv_eq_ediv_of_nonneg (by omega)]
  refine ok_ar (by omega) (ok_some ?_)
  unfold Cc Rr
  exact Prod.ext (by dsimp only; omega) (by dsimp only; omega)
theorem Of_ok {p : T_floor_Point} (hx : 0 ≤ p.X ∧ p.X < 4 * f.Sites + 8) (hy : 0 ≤ p.Y ∧ p.Y < 4 * f.Rows + 8) : Ok (P_global_Of f p) (fun r => r = p.Y / 8 * Cc f + p.X / 8 ∧ 0 ≤ r ∧ r < Cc f * Rr f) := by
  have hR := hf.R
  have hS := hf.S
  have hg := hf.grid
  unfold P_global_Of
  refine ok_bd (Grid_ok hf) ?_
  rintro _ rfl
  dsimp only
  rw [Int.tdiv_eq_ediv_of_nonneg hx.1, Int.tdiv_eq_ediv_of_nonneg hy.1]
  have hc := hg.c
  have hr := hg.r
  have e1 : p.X / 8 < Cc f := by unfold Cc; omega
  have e2 : p.Y / 8 < Rr f := by unfold Rr; omega
  have e3 : 0 ≤ p.X / 8 := by omega
  have e4 : 0 ≤ p.Y / 8 := by omega
  generalize p.X / 8 = a at *
  generalize p.Y / 8 = b at *
  have hb : 0 ≤ b * Cc f ∧ b * Cc f ≤ 100 ∧ b * Cc f + a < Cc f * Rr f := by
    revert e1 e2
    refine hg.cases (P := fun C R => a < C → b < R → 0 ≤ b * C ∧ b * C ≤ 100 ∧ b * C + a < C * R) fun R hR => ⟨?_, ?_, ?_, ?_, ?_⟩ <;> intro e1 e2 <;> omega
  exact ok_ck (by decide) (ok_ar (by unfold I64; omega) (ok_ar (by unfold I64; omega) (ok_ck (by decide) (ok_ar (by unfold I64; omega) (ok_ar (by unfold I64; omega) (ok_some ⟨rfl, by omega, hb.2.2⟩))))))
theorem isEdge_ok {e : T_global_Edge} (h1 : -1000 ≤ e.From ∧ e.From ≤ 1000) (h2 : -1000 ≤ e.To ∧ e.To ≤ 1000) : Ok (P_global_isEdge f e) (fun r => r = true ↔ IsE (Cc f) (Rr f) e) := by
  have hg := hf.grid
  have hc := hg.c
  have hl := hg.le
  unfold P_global_isEdge
  refine ok_bd (Grid_ok hf) ?_
  rintro _ rfl
  dsimp only
  refine ok_ck (fun _ => by unfold I64; omega) (ok_lv (ok_lv (ok_ite (fun hq => ok_some ?_) (fun hq => ok_ar (by unfold I64; omega) (ok_ck (fun _ => by unfold I64; omega) (ok_lv (ok_ck (fun _ => by omega) (ok_lv (ok_lv (ok_lv (ok_some ?_)))))))))))
  · simp only [Bool.or_eq_true, decide_eq_true_eq] at hq
    unfold IsE
    simp only [Bool.false_eq_true, false_iff]
    omega
  · simp only [Bool.or_eq_true, decide_eq_true_eq, not_or] at hq
    unfold IsE
    simp only [Bool.or_eq_true, Bool.and_eq_true, decide_eq_true_eq]
    omega
theorem walled_ok (a b c : Int) : Ok (P_global_walled f a b c) (fun _ => True) := by
  have := hf.wallL
  unfold P_global_walled
  refine ok_bs (R := fun _ => True) ?_ (fun _ _ => ok_some trivial) (fun _ _ => ok_some trivial)
  refine ok_lp (fun y => 0 ≤ y) (fun y => ((f.Walls.length : Int) - y).toNat) (by omega) (by omega) ?_
  intro y y0
  unfold P_global_walled_L2
  exact ok_ite (fun hlt => ok_ck ⟨y0, hlt⟩ (ok_lv (ok_lv (ok_lv (ok_lv (ok_lv (ok_ite (fun _ => ok_some trivial) (fun _ => ok_ar (by unfold I64; omega) (ok_some ⟨by omega, by omega⟩))))))))) (fun hge => ok_some trivial)
theorem Room_ok (hp : f.Ports = []) {e : T_global_Edge} (h1 : -1000 ≤ e.From ∧ e.From ≤ 1000) (h2 : -1000 ≤ e.To ∧ e.To ≤ 1000) : Ok (P_global_Room f e) (fun r => (0 ≤ r ∧ r ≤ 100) ∧ (¬ IsE (Cc f) (Rr f) e → r = 0)) := by
  have hg := hf.grid
  have hc := hg.c
  have hl := hg.le
  have hLy := hf.Ly
  have hR := hf.R
  have hS := hf.S
  unfold P_global_Room
  refine ok_bd (FCheck0 hf hp) ?_
  rintro _ rfl
  refine ok_bd (R := fun r => r = true ↔ IsE (Cc f) (Rr f) e) (by simpa [gd] using isEdge_ok hf h1 h2) fun r hr => ok_lv (ok_ite (fun hq => ok_some ⟨by omega, fun _ => rfl⟩) (fun hq => ?_))
  have hE : IsE (Cc f) (Rr f) e := by
    rw [← hr]; simpa using hq
  have hrg := hE.rng hg
  refine ok_bd (Grid_ok hf) ?_
  rintro _ rfl
  refine ok_bd (Size_ok hR hS) ?_
  rintro _ rfl
  dsimp only
  have hm : 0 ≤ Int.tmod e.From (Cc f) ∧ Int.tmod e.From (Cc f) < 6 := by
    rw [tmod_e hrg.1.1]
    have := Int.emod_nonneg e.From (show Cc f ≠ 0 by omega)
    have := Int.emod_lt_of_pos e.From (show 0 < Cc f by omega)
    omega
  have hd : 0 ≤ Int.tdiv e.From (Cc f) ∧ Int.tdiv e.From (Cc f) ≤ 24 := by
    rw [Int.tdiv_eq_ediv_of_nonneg hrg.1.1]
    have h3 := Int.ediv_nonneg hrg.1.1 (show 0 ≤ Cc f by omega)
    have h4 := Int.ediv_le_self (Cc f) hrg.1.1
    omega
  generalize Int.tmod e.From (Cc f) = a at *
  generalize Int.tdiv e.From (Cc f) = b at *
  refine ok_ck (by omega) (ok_lv (ok_ck (by omega) (ok_ar (by unfold I64; omega) (ok_bd (R := fun r => 0 ≤ r ∧ r ≤ 32) ?_ fun r hr => ok_some ⟨by omega, fun q => absurd hE q⟩))))
  refine ok_lp (fun s => (0 ≤ s.2 ∧ s.2 ≤ f.Layers) ∧ 0 ≤ s.1 ∧ s.1 ≤ 8 * s.2) (fun s => (f.Layers - s.2).toNat) ⟨⟨by simp, by simp only; omega⟩, by simp, by simp⟩ (by simp only; omega) ?_
  rintro ⟨n, y⟩ ⟨⟨y0, y1⟩, n0, n1⟩
  dsimp only at y0 y1 n0 n1
  unfold P_global_Room_L8
  dsimp only
  refine ok_ite (fun hlt => ok_bd (R := fun r => 0 ≤ r ∧ r ≤ n + 8) ?_ fun r hr => ok_ar (by unfold I64; omega) (ok_some ⟨⟨⟨by dsimp only; omega, by dsimp only; omega⟩, by dsimp only; omega, by dsimp only; omega⟩, by dsimp only; omega⟩)) (fun hge => ok_some ⟨n0, by omega⟩)
  refine ok_lp (fun s => (0 ≤ s.2 ∧ s.2 ≤ 8) ∧ 0 ≤ s.1 ∧ s.1 ≤ n + s.2) (fun s => (8 - s.2).toNat) ⟨⟨by simp, by simp⟩, by simp only; omega, by simp⟩ (by simp only; omega) ?_
  rintro ⟨m, z⟩ ⟨⟨z0, z1⟩, m0, m1⟩
  dsimp only at z0 z1 m0 m1
  unfold P_global_Room_L11
  dsimp only
  refine ok_ite (fun hz => ok_bd (R := fun r => 0 ≤ r ∧ r ≤ m + 1) ?_ fun r hr => ok_ar (by unfold I64; omega) (ok_some ⟨⟨⟨by dsimp only; omega, by dsimp only; omega⟩, by dsimp only; omega, by dsimp only; omega⟩, by dsimp only; omega⟩)) (fun hge => ok_some ⟨m0, by omega⟩)
  refine ok_ar (by unfold I64; omega) (ok_ar (by unfold I64; omega) (ok_ar (by unfold I64; omega) (ok_ar (by unfold I64; omega) (ok_ar (by unfold I64; omega) (ok_ar (by unfold I64; omega) (ok_bd (R := fun r => (0 ≤ r.1 ∧ r.1 ≤ 1000) ∧ (0 ≤ r.2.1 ∧ r.2.1 ≤ 1000) ∧ (0 ≤ r.2.2.1 ∧ r.2.2.1 ≤ 1) ∧ 0 ≤ r.2.2.2 ∧ r.2.2.2 ≤ 1) (ok_ite (fun hq => ?_) (fun hq => ok_some ⟨by dsimp only; omega, by dsimp only; omega, by dsimp only; omega, by dsimp only; omega⟩)) ?_))))))
  · exact ok_ar (by unfold I64; omega) (ok_ar (by unfold I64; omega) (ok_ar (by unfold I64; omega) (ok_ar (by unfold I64; omega) (ok_ar (by unfold I64; omega) (ok_some ⟨by dsimp only; omega, by dsimp only; omega, by dsimp only; omega, by dsimp only; omega⟩)))))
  rintro ⟨x, yy, dx, dy⟩ ⟨g1, g2, g3, g4⟩
  dsimp only at g1 g2 g3 g4
  have gw : ∀ (q : Bool) a b c, Ok (gd q (P_global_walled f a b c)) (fun _ => True) := fun q a b c => by
    cases q
    · exact ⟨_, rfl, trivial⟩
    · exact walled_ok hf a b c
  dsimp only
  exact ok_ck (by decide) (ok_lv (ok_ck (fun _ => by unfold I64; omega) (ok_lv (ok_lv (ok_ck (fun _ => by unfold I64; omega) (ok_lv (ok_lv (ok_bd (gw _ _ _ _) fun r _ => ok_lv (ok_ck (fun _ => by unfold I64; omega) (ok_lv (ok_ck (fun _ => by unfold I64; omega) (ok_lv (ok_bd (gw _ _ _ _) fun r _ => ok_lv (ok_ite (fun _ => ok_some ⟨by omega, by omega⟩) (fun _ => ok_ar (by unfold I64; omega) (ok_some ⟨by omega, by omega⟩))))))))))))))))
theorem Edges_ok (hp : f.Ports = []) : Ok (P_global_Edges f) (fun r => r.length ≤ 100 ∧ ∀ e, e ∈ r ↔ IsE (Cc f) (Rr f) e) := by
  have hg := hf.grid
  have hc := hg.c
  have hr := hg.r
  have hl := hg.le
  unfold P_global_Edges
  refine ok_bd (FCheck0 hf hp) ?_
  rintro _ rfl
  refine ok_f (by simp) (ok_bd (Grid_ok hf) ?_)
  rintro _ rfl
  generalize Cc f = C at *
  generalize Rr f = R at *
  refine ok_bd (R := fun r => r.length ≤ 100 ∧ ∀ e, e ∈ r ↔ IsE C R e) ?_ fun r hr => ok_some hr
  refine ok_lp (fun s => (0 ≤ s.2 ∧ s.2 ≤ R) ∧ (s.1.length : Int) ≤ 2 * (s.2 * C) ∧ ∀ e, e ∈ s.1 ↔ IsE C R e ∧ e.From < s.2 * C) (fun s => (R - s.2).toNat) ⟨⟨by simp, by simp only; omega⟩, by simp, fun e => ?_⟩ (by simp only; omega) ?_
  · simp only [List.not_mem_nil, false_iff, Int.zero_mul]
    rintro ⟨⟨h, _⟩, h2⟩; omega
  rintro ⟨out, y⟩ ⟨⟨y0, y1⟩, ho, hI⟩
  dsimp only at y0 y1 ho hI
  have hyC : 0 ≤ y * C := Int.mul_nonneg y0 (by omega)
  have hyC2 : y * C ≤ C * R := by rw [Int.mul_comm C R]; exact Int.mul_le_mul_of_nonneg_right y1 (by omega)
  unfold P_global_Edges_L6
  dsimp only
  refine ok_ite (fun hlt => ?_) (fun hge => ok_some ⟨by omega, fun e => ?_⟩)
  · have hy1C : (y + 1) * C = y * C + C := by rw [Int.add_mul, Int.one_mul]
    have hy1C2 : (y + 1) * C ≤ C * R := by rw [Int.mul_comm C R]; exact Int.mul_le_mul_of_nonneg_right (by omega) (by omega)
    refine ok_bd (R := fun r => (r.length : Int) ≤ 2 * ((y + 1) * C) ∧ ∀ e, e ∈ r ↔ IsE C R e ∧ e.From < (y + 1) * C) ?_ fun r hr => ok_ar (by unfold I64; omega) (ok_some ⟨⟨⟨by dsimp only; omega, by dsimp only; omega⟩, hr⟩, by dsimp only; omega⟩)
    refine ok_lp (fun s => (0 ≤ s.2 ∧ s.2 ≤ C) ∧ (s.1.length : Int) ≤ 2 * (y * C + s.2) ∧ ∀ e, e ∈ s.1 ↔ IsE C R e ∧ e.From < y * C + s.2) (fun s => (C - s.2).toNat) ⟨⟨by simp, by simp only; omega⟩, by simp only; omega, fun e => by simp only [Int.add_zero]; exact hI e⟩ (by simp only; omega) ?_
    rintro ⟨o, c⟩ ⟨⟨c0, c1⟩, ho', hI'⟩
    dsimp only at c0 c1 ho' hI'
    unfold P_global_Edges_L9
    dsimp only
    refine ok_ite (fun hcl => ?_) (fun hge => ok_some ⟨by omega, fun e => by rw [hI', hy1C, show c = C by omega]⟩)
    have hmod : ∀ x : Int, x = y * C + c + 1 → (0 < Int.tmod x C ↔ c + 1 < C) := fun x hx => by
      subst hx
      rw [tmod_e (by omega), show y * C + c + 1 = c + 1 + C * y by rw [Int.mul_comm y C]; omega, Int.add_mul_emod_self_left]
      by_cases q : c + 1 < C
      · rw [Int.emod_eq_of_lt (by omega) q]; omega
      · rw [show c + 1 = C by omega, Int.emod_self]; omega
    have hrow : y * C + c + C < C * R ↔ y + 1 < R := by
      constructor
      · intro h
        by_cases q : y + 1 < R
        · exact q
        · have : y + 1 = R := by omega
          rw [← this, Int.mul_comm C, hy1C] at h; omega
      · intro h
        have : (y + 2) * C ≤ C * R := by rw [Int.mul_comm C R]; exact Int.mul_le_mul_of_nonneg_right (by omega) (by omega)
        rw [Int.add_mul] at this; omega
    have hone : y * C + c + 1 < C * R ∨ ¬ c + 1 < C := by omega
    have hE : ∀ e, IsE C R e ∧ e.From < y * C + (c + 1) ↔ (IsE C R e ∧ e.From < y * C + c) ∨ (c + 1 < C ∧ e = ⟨y * C + c, y * C + c + 1⟩) ∨ (y + 1 < R ∧ e = ⟨y * C + c, y * C + c + C⟩) := fun e => by
      constructor
      · rintro ⟨h1, h2⟩
        by_cases q : e.From < y * C + c
        · exact .inl ⟨h1, q⟩
        · have hF : e.From = y * C + c := by omega
          obtain ⟨a1, a2, a3 | ⟨a3, a4⟩⟩ := h1
          · exact .inr (.inr ⟨hrow.1 (by omega), by cases e; dsimp only at *; subst hF; subst a3; rfl⟩)
          · exact .inr (.inl ⟨(hmod _ (by omega)).1 a4, by cases e; dsimp only at *; subst hF; subst a3; rfl⟩)
      · rintro (⟨h1, h2⟩ | ⟨h1, rfl⟩ | ⟨h1, rfl⟩)
        · exact ⟨h1, by omega⟩
        · exact ⟨⟨by dsimp only; omega, by dsimp only; omega, .inr ⟨rfl, (hmod _ rfl).2 h1⟩⟩, by dsimp only; omega⟩
        · exact ⟨⟨by dsimp only; omega, hrow.2 h1, .inl rfl⟩, by dsimp only; omega⟩
    refine ok_ar (by unfold I64; omega) (ok_ar (by unfold I64; omega) (ok_ar (by unfold I64; omega) (ok_bd (R := fun r => (r.length : Int) ≤ o.length + 1 ∧ ∀ e, e ∈ r ↔ (IsE C R e ∧ e.From < y * C + c) ∨ (c + 1 < C ∧ e = ⟨y * C + c, y * C + c + 1⟩)) (ok_ite (fun hq => ok_ar (by unfold I64; omega) (ok_lv (ok_ck ?_ (ok_some ⟨?_, fun e => ?_⟩)))) (fun hq => ok_some ⟨by omega, fun e => ?_⟩)) fun r hr' => ok_ar (by unfold I64; omega) (ok_bd (R := fun r' => (r'.length : Int) ≤ r.length + 1 ∧ ∀ e, e ∈ r' ↔ IsE C R e ∧ e.From < y * C + (c + 1)) (ok_ite (fun hq => ok_ar (by unfold I64; omega) (ok_lv (ok_ck ?_ (ok_some ⟨?_, fun e => ?_⟩)))) (fun hq => ok_some ⟨by omega, fun e => ?_⟩)) fun r' hr'' => ok_ar (by unfold I64; omega) (ok_some ⟨⟨⟨by dsimp only; omega, by dsimp only; omega⟩, by dsimp only; omega, hr''.2⟩, by dsimp only; omega⟩)))))
    · simp only [apOk, List.length_append, List.length_singleton]; omega
    · simp only [List.length_append, List.length_singleton]; omega
    · rw [List.mem_append, List.mem_singleton, hI']
      exact ⟨fun h => h.elim .inl fun h => .inr ⟨hq, h⟩, fun h => h.elim .inl fun h => .inr h.2⟩
    · rw [hI']
      exact ⟨.inl, fun h => h.elim id fun h => absurd h.1 hq⟩
    · simp only [apOk, List.length_append, List.length_singleton]; omega
    · simp only [List.length_append, List.length_singleton]; omega
    · rw [List.mem_append, List.mem_singleton, hr'.2, hE]
      constructor
      · rintro ((h | h) | h)
        · exact .inl h
        · exact .inr (.inl h)
        · exact .inr (.inr ⟨hq, h⟩)
      · rintro (h | h | h)
        · exact .inl (.inl h)
        · exact .inl (.inr h)
        · exact .inr h.2
    · rw [hr'.2, hE]
      constructor
      · rintro (h | h)
        · exact .inl h
        · exact .inr (.inl h)
      · rintro (h | h | h)
        · exact .inl h
        · exact .inr h
        · exact absurd h.1 hq
  · have : y = R := by omega
    subst this
    rw [hI]
    refine ⟨fun h => h.1, fun h => ⟨h, ?_⟩⟩
    have := h.rng hg
    rw [Int.mul_comm y C]; omega
theorem beside_ok {rm ld ps : List (T_global_Edge × Int)} {k : Int} (hk : 0 ≤ k ∧ k < Cc f * Rr f) : Ok (P_global_plan_beside f.Rows f.Sites f.Layers f.Blocks f.Walls f.Ports rm ld ps k) (fun r => r.length ≤ 4 ∧ ∀ x, x ∈ r ↔ nb (Cc f) (Rr f) k x) := by
  have hg := hf.grid
  have hc := hg.c
  have hl := hg.le
  have hnb := fun x => nb_iff hg (x := x) hk
  unfold P_global_plan_beside
  refine ok_bd (Grid_ok hf) ?_
  rintro _ rfl
  dsimp only
  rw [tmod_e hk.1]
  generalize Cc f = C at *
  generalize Rr f = R at *
  have hm := Int.emod_nonneg k (show C ≠ 0 by omega)
  have hm2 := Int.emod_lt_of_pos k (show 0 < C by omega)
  refine ok_ck (by omega) (ok_lv (ok_bd (R := fun r => r.length ≤ 1 ∧ ∀ x, x ∈ r ↔ (0 < k % C ∧ x = k - 1)) (ok_ite (fun hq => ok_ar (by unfold I64; omega) (ok_lv (ok_ck (by simp [apOk]) (ok_some ⟨by simp, fun x => by simp [hq]⟩)))) (fun hq => ok_some ⟨by simp, fun x => by simp [hq]⟩)) fun r1 h1 => ok_ck (by omega) (ok_lv (ok_ar (by unfold I64; omega) ?_))))
  refine ok_bd (R := fun r => r.length ≤ 2 ∧ ∀ x, x ∈ r ↔ (0 < k % C ∧ x = k - 1) ∨ (k % C + 1 < C ∧ x = k + 1)) (ok_ite (fun hq => ok_ar (by unfold I64; omega) (ok_lv (ok_ck (by simp only [apOk, List.length_append, List.length_singleton]; omega) (ok_some ⟨by simp only [List.length_append, List.length_singleton]; omega, fun x => by rw [List.mem_append, List.mem_singleton, h1.2]; simp [hq]⟩)))) (fun hq => ok_some ⟨by omega, fun x => by rw [h1.2]; simp [hq]⟩)) fun r2 h2 => ?_
  refine ok_bd (R := fun r => r.length ≤ 3 ∧ ∀ x, x ∈ r ↔ ((0 < k % C ∧ x = k - 1) ∨ (k % C + 1 < C ∧ x = k + 1)) ∨ (C ≤ k ∧ x = k - C)) (ok_ite (fun hq => ok_ar (by unfold I64; omega) (ok_lv (ok_ck (by simp only [apOk, List.length_append, List.length_singleton]; omega) (ok_some ⟨by simp only [List.length_append, List.length_singleton]; omega, fun x => by rw [List.mem_append, List.mem_singleton, h2.2]; simp [hq]⟩)))) (fun hq => ok_some ⟨by omega, fun x => by rw [h2.2]; simp [hq]⟩)) fun r3 h3 => ?_
  refine ok_ar (by unfold I64; omega) (ok_ar (by unfold I64; omega) (ok_bd (R := fun r => r.length ≤ 4 ∧ ∀ x, x ∈ r ↔ (((0 < k % C ∧ x = k - 1) ∨ (k % C + 1 < C ∧ x = k + 1)) ∨ (C ≤ k ∧ x = k - C)) ∨ (k + C < C * R ∧ x = k + C)) (ok_ite (fun hq => ok_ar (by unfold I64; omega) (ok_lv (ok_ck (by simp only [apOk, List.length_append, List.length_singleton]; omega) (ok_some ⟨by simp only [List.length_append, List.length_singleton]; omega, fun x => by rw [List.mem_append, List.mem_singleton, h3.2]; simp [hq]⟩)))) (fun hq => ok_some ⟨by omega, fun x => by rw [h3.2]; simp [hq]⟩)) fun r4 h4 => ok_some ⟨h4.1, fun x => by rw [h4.2, hnb]; simp only [or_assoc]⟩))
theorem price_ok {rm ld ps : List (T_global_Edge × Int)} {e : T_global_Edge} (h1 : 0 ≤ mget e rm 0 ∧ mget e rm 0 ≤ 100) (h2 : 0 ≤ mget e ld 0 ∧ mget e ld 0 ≤ 100) (h3 : 0 ≤ mget e ps 0 ∧ mget e ps 0 ≤ 100) :
    Ok (P_global_plan_price f.Rows f.Sites f.Layers f.Blocks f.Walls f.Ports rm ld ps e) (fun r => 4 ≤ r ∧ r ≤ 10000) := by
  unfold P_global_plan_price
  have hm : 0 ≤ max (0 : Int) (mget e ld 0 + 1 - mget e rm 0) ∧ max (0 : Int) (mget e ld 0 + 1 - mget e rm 0) ≤ 101 := by omega
  exact ok_lv (ok_ar (by unfold I64; omega) (ok_lv (ok_ar (by unfold I64; omega) (ok_lv (ok_ar (by unfold I64; omega) (ok_ar (by unfold I64; omega) (ok_lv (ok_ar (by unfold I64; omega) (ok_ar (by unfold I64; omega) (ok_some ⟨by omega, by omega⟩))))))))))
end
end Go.Proofs.YtgmjhlpjlggpiaaDoor.X
