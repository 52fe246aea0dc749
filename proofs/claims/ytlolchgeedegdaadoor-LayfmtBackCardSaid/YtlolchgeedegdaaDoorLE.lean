/- The text of a floor with sites. Plain. -/
import Derived.Test.YtlolchgeedegdaaDoorLD
namespace Go.Proofs.YtlolchgeedegdaaDoor.X
open Go Go.RowKit
set_option linter.unusedVariables false
set_option linter.unusedSimpArgs false
set_option linter.unusedSectionVars false
theorem cutS_at {a b : ByteArray} (h : Free 32 a) : (cutS (a ++ (⟨#[32]⟩ ++ b)) ⟨#[32]⟩).1 = a := by
  have hi := indexB_at (b := b) h
  have hi2 : Go.Lib.index (a ++ ((⟨#[32]⟩ : ByteArray) ++ b)).data.toList (⟨#[32]⟩ : ByteArray).data.toList = (a.size : Int) := hi
  refine ba_ext ?_
  simp only [cutS, Go.Lib.cut, hi2]
  rw [if_pos (by omega)]
  simp only [Int.toNat_natCast]
  rw [show (a ++ ((⟨#[32]⟩ : ByteArray) ++ b)).data.toList = a.data.toList ++ 32 :: b.data.toList by simp [ByteArray.data_append], Go.Lib.size_eq, List.take_left]
/-- A line of a floor. -/
inductive Fk where
  | flo (f : T_floor_Floor)
  | block (b : T_floor_Block)
  | wall (x : T_floor_Wall)
  | port (p : T_floor_Port)
  | site (s : T_floor_Site)
instance : Inhabited Fk := ⟨.site default⟩
def Fk.word : Fk → ByteArray
  | .flo _ => ⟨#[102, 108, 111, 111, 114]⟩
  | .block _ => ⟨#[98, 108, 111, 99, 107]⟩
  | .wall _ => ⟨#[119, 97, 108, 108]⟩
  | .port p => if p.Out = true then ⟨#[111, 117, 116]⟩ else ⟨#[105, 110]⟩
  | .site _ => ⟨#[115, 105, 116, 101]⟩
def Fk.nums : Fk → List Int
  | .flo f => [f.Rows, f.Sites, f.Layers]
  | .block b => [b.Row, b.From, b.To]
  | .wall x => [x.Layer, x.X0, x.Y0, x.X1, x.Y1]
  | .port p => [p.X, p.Y]
  | .site s => [s.Row, s.At]
/-- What stands behind the first word, its blank included. -/
def Fk.tail : Fk → ByteArray
  | .port p => ⟨#[32]⟩ ++ (((⟨#[61]⟩ : ByteArray) ++ p.Name) ++ numsT [p.X, p.Y])
  | k => numsT k.nums
def Fk.text (k : Fk) : ByteArray := k.word ++ k.tail
def Fk.part : Fk → Int
  | .flo _ => 0
  | .block _ => 1
  | .wall _ => 2
  | .port _ => 3
  | .site _ => 4
structure SiteN (R S : Int) (s : T_floor_Site) : Prop where
  r : 0 ≤ s.Row ∧ s.Row < R
  a : 0 ≤ s.At ∧ s.At < S
def Fk.Good : Fk → Prop
  | .port p => Sm [p.X, p.Y] ∧ PName p.Name
  | k => Sm k.nums
def flines (f : T_floor_Floor) (ss : List T_floor_Site) : List Fk := ((([Fk.flo f] ++ f.Blocks.map Fk.block) ++ f.Walls.map Fk.wall) ++ f.Ports.map Fk.port) ++ ss.map Fk.site
theorem PName.free {s : ByteArray} (h : PName s) : Free 32 s ∧ Free 10 s ∧ s.size ≤ 4 := by
  have a := num_ok (n := 0) (by omega) (by omega)
  have b := num_ok (n := 1) (by omega) (by omega)
  have c : Free 32 (⟨#[112]⟩ : ByteArray) ∧ Free 10 (⟨#[112]⟩ : ByteArray) := ⟨by simp [Free], by simp [Free]⟩
  rcases h with rfl | rfl | rfl
  · exact ⟨by simp [Free], by simp [Free], by decide⟩
  · exact ⟨c.1.app a.2.2.1, c.2.app a.2.1, (by simp only [ByteArray.size_append, sz_lit, List.size_toArray, List.length_cons, List.length_nil]; omega)⟩
  · exact ⟨c.1.app b.2.2.1, c.2.app b.2.1, (by simp only [ByteArray.size_append, sz_lit, List.size_toArray, List.length_cons, List.length_nil]; omega)⟩
theorem sm2 {a b : Int} (ha : 0 ≤ a ∧ a ≤ 200) (hb : 0 ≤ b ∧ b ≤ 200) : Sm [a, b] := fun n hn => by
  simp only [List.mem_cons, List.not_mem_nil, or_false] at hn
  omega
theorem lit_in : (⟨#[105, 110, 32, 61]⟩ : ByteArray) = ⟨#[105, 110]⟩ ++ (⟨#[32]⟩ ++ ⟨#[61]⟩) := by decide +kernel
theorem lit_outp : (⟨#[111, 117, 116, 32, 61]⟩ : ByteArray) = ⟨#[111, 117, 116]⟩ ++ (⟨#[32]⟩ ++ ⟨#[61]⟩) := by decide +kernel
section
variable {f : T_floor_Floor} (hf : FlN f) {ss : List T_floor_Site} (hl : ss.length ≤ 5) (hs : All (fun _ s => SiteN f.Rows f.Sites s) ss)
include hf hl hs
theorem fgood : ∀ k ∈ flines f ss, k.Good := by
  have a := hf.R
  have b := hf.S
  have c := hf.Ly
  intro k hk
  simp only [flines, List.mem_append, List.mem_map, List.mem_singleton] at hk
  rcases hk with (((rfl | ⟨x, hx, rfl⟩) | ⟨x, hx, rfl⟩) | ⟨x, hx, rfl⟩) | ⟨x, hx, rfl⟩
  · intro n hn
    simp only [Fk.nums, List.mem_cons, List.not_mem_nil, or_false] at hn
    omega
  · obtain ⟨i, hi, rfl⟩ := mem_gt hx
    have g := (hf.block i hi).row
    have g2 := (hf.block i hi).x
    intro n hn
    simp only [Fk.nums, List.mem_cons, List.not_mem_nil, or_false] at hn
    omega
  · obtain ⟨i, hi, rfl⟩ := mem_gt hx
    have g := (hf.wall i hi).layer
    have g2 := (hf.wall i hi).x
    have g3 := (hf.wall i hi).y
    intro n hn
    simp only [Fk.nums, List.mem_cons, List.not_mem_nil, or_false] at hn
    omega
  · obtain ⟨i, hi, rfl⟩ := mem_gt hx
    have g := hf.port i hi
    have g2 := g.x
    have g3 := g.y
    exact ⟨sm2 (by omega) (by omega), g.name⟩
  · obtain ⟨i, hi, rfl⟩ := mem_gt hx
    have g := (hs i hi).r
    have g2 := (hs i hi).a
    intro n hn
    simp only [Fk.nums, List.mem_cons, List.not_mem_nil, or_false] at hn
    omega
theorem flen : 1 ≤ (flines f ss).length ∧ (flines f ss).length ≤ 17 := by
  have e1 := hf.blockL
  have e2 := hf.wallL
  have e3 := hf.portL
  simp only [flines, List.length_append, List.length_map, List.length_singleton]
  omega
theorem checkSites_ok : Ok (P_layfmt_checkSites f ss) (fun r => r = 0) := by
  unfold P_layfmt_checkSites
  refine ok_f (by omega) (ok_bs1 (R := fun _ => True) ?_ fun _ _ => ok_some rfl)
  refine ok_lp (fun y => 0 ≤ y ∧ y ≤ ss.length) (fun y => ((ss.length : Int) - y).toNat) ⟨by omega, by omega⟩ (by omega) ?_
  rintro y ⟨y0, y1⟩
  unfold P_layfmt_checkSites_L4
  refine ok_ite (fun hlt => ?_) fun hge => ok_some ⟨(), rfl, trivial⟩
  have g := (hs y ⟨y0, hlt⟩).r
  have g2 := (hs y ⟨y0, hlt⟩).a
  exact ok_ck ⟨y0, hlt⟩ (ok_lv (ok_lv (ok_lv (ok_lv (ok_f (by simp only [Bool.or_eq_true, decide_eq_true_eq]; omega) (ok_ar (by omega) (ok_some ⟨⟨by omega, by omega⟩, by omega⟩)))))))
theorem FText_ok (hc : P_floor_Check f = some 0) : Ok (P_layfmt_Floor f ss) (fun r => r = (unl ((flines f ss).map Fk.text), 0) ∧ (unl ((flines f ss).map Fk.text)).size ≤ 2000) := by
  have e1 := hf.blockL
  have e2 := hf.wallL
  have e3 := hf.portL
  have hg := fgood hf hl hs
  unfold P_layfmt_Floor
  refine ok_bd (ok_eq hc rfl) ?_
  rintro _ rfl
  refine ok_f (by simp) (ok_bd (checkSites_ok hf hl hs) ?_)
  rintro _ rfl
  refine ok_f (by simp) (ok_bd (line_ok (by decide) (hg (.flo f) (by simp [flines])) (by simp [Fk.nums])) ?_)
  rintro s0 ⟨hs1, hz⟩
  have hz : s0.size ≤ 50 := Nat.le_trans hz (by simp only [ByteArray.size_append, sz_lit, List.size_toArray, List.length_cons, List.length_nil]; omega)
  have hs0 : s0 = unl [(Fk.flo f).text] := by
    rw [hs1]
    show _ = (Fk.flo f).text ++ (⟨#[10]⟩ ++ (⟨#[]⟩ : ByteArray))
    rw [app_empty]; rfl
  have hp : 0 < s0.size := by rw [hs1]; simp only [ByteArray.size_append, sz_lit, List.size_toArray, List.length_cons, List.length_nil]; omega
  refine ok_ck (by simp only [ByteArray.size_append, sz_lit, List.size_toArray, List.length_cons, List.length_nil]; omega) (ok_lv ?_)
  rw [empty_app]
  refine ok_bd (R := fun r => r = unl (([Fk.flo f] ++ f.Blocks.map Fk.block).map Fk.text) ∧ 0 < r.size ∧ r.size ≤ 200) ?_ ?_
  · refine ok_lp (fun s => (0 ≤ s.2 ∧ s.2 ≤ f.Blocks.length) ∧ s.1 = unl (([Fk.flo f] ++ (f.Blocks.take s.2.toNat).map Fk.block).map Fk.text) ∧ 0 < s.1.size ∧ (s.1.size : Int) ≤ 50 + 50 * s.2) (fun s => ((f.Blocks.length : Int) - s.2).toNat) ⟨⟨by simp, by simp only; omega⟩, hs0, hp, by simp only; omega⟩ (by simp only; omega) ?_
    rintro ⟨bb, y⟩ ⟨⟨y0, y1⟩, y2, y3, y4⟩
    simp only at y0 y1 y2 y3 y4
    unfold P_layfmt_Floor_L10
    dsimp only
    refine ok_ite (fun hlt => ?_) fun hge => ok_some ⟨by rw [y2, show y.toNat = f.Blocks.length by omega, List.take_length], by omega, by omega⟩
    have hG : Sm (Fk.block (gt f.Blocks y)).nums := hg (.block (gt f.Blocks y)) (by simp only [flines, List.mem_append, List.mem_map]; exact .inl (.inl (.inl (.inr ⟨_, gt_mem ⟨y0, hlt⟩, rfl⟩))))
    refine ok_ck ⟨y0, hlt⟩ (ok_lv (ok_bd (line_ok (by decide) hG (by simp [Fk.nums])) ?_))
    rintro s1 ⟨h1, z1⟩
    have z1 : s1.size ≤ 50 := Nat.le_trans z1 (by simp only [ByteArray.size_append, sz_lit, List.size_toArray, List.length_cons, List.length_nil]; omega)
    refine ok_ck (by omega) (ok_lv (ok_ar (by omega) (ok_some ⟨⟨⟨by simp only; omega, by simp only; omega⟩, ?_, (by simp only [ByteArray.size_append, sz_lit, List.size_toArray, List.length_cons, List.length_nil]; omega), (by simp only [ByteArray.size_append, sz_lit, List.size_toArray, List.length_cons, List.length_nil]; omega)⟩, by simp only; omega⟩)))
    simp only
    rw [unl_step Fk.text _ _ ⟨y0, hlt⟩, ← y2, h1]
    rfl
  rintro b1 ⟨hb0, hb1, hb2⟩
  refine ok_bd (R := fun r => r = unl ((([Fk.flo f] ++ f.Blocks.map Fk.block) ++ f.Walls.map Fk.wall).map Fk.text) ∧ 0 < r.size ∧ r.size ≤ 350) ?_ ?_
  · refine ok_lp (fun s => (0 ≤ s.2 ∧ s.2 ≤ f.Walls.length) ∧ s.1 = unl ((([Fk.flo f] ++ f.Blocks.map Fk.block) ++ (f.Walls.take s.2.toNat).map Fk.wall).map Fk.text) ∧ 0 < s.1.size ∧ (s.1.size : Int) ≤ 200 + 50 * s.2) (fun s => ((f.Walls.length : Int) - s.2).toNat) ⟨⟨by simp, by simp only; omega⟩, by simp only [Int.toNat_zero, List.take_zero, List.map_nil, List.append_nil]; exact hb0, hb1, by simp only; omega⟩ (by simp only; omega) ?_
    rintro ⟨bb, y⟩ ⟨⟨y0, y1⟩, y2, y3, y4⟩
    simp only at y0 y1 y2 y3 y4
    unfold P_layfmt_Floor_L15
    dsimp only
    refine ok_ite (fun hlt => ?_) fun hge => ok_some ⟨by rw [y2, show y.toNat = f.Walls.length by omega, List.take_length], by omega, by omega⟩
    have hG : Sm (Fk.wall (gt f.Walls y)).nums := hg (.wall (gt f.Walls y)) (by simp only [flines, List.mem_append, List.mem_map]; exact .inl (.inl (.inr ⟨_, gt_mem ⟨y0, hlt⟩, rfl⟩)))
    refine ok_ck ⟨y0, hlt⟩ (ok_lv (ok_bd (line_ok (by decide) hG (by simp [Fk.nums])) ?_))
    rintro s1 ⟨h1, z1⟩
    have z1 : s1.size ≤ 50 := Nat.le_trans z1 (by simp only [ByteArray.size_append, sz_lit, List.size_toArray, List.length_cons, List.length_nil]; omega)
    refine ok_ck (by omega) (ok_lv (ok_ar (by omega) (ok_some ⟨⟨⟨by simp only; omega, by simp only; omega⟩, ?_, (by simp only [ByteArray.size_append, sz_lit, List.size_toArray, List.length_cons, List.length_nil]; omega), (by simp only [ByteArray.size_append, sz_lit, List.size_toArray, List.length_cons, List.length_nil]; omega)⟩, by simp only; omega⟩)))
    simp only
    rw [unl_step Fk.text _ _ ⟨y0, hlt⟩, ← y2, h1]
    rfl
  rintro b2 ⟨hc0, hc1, hc2⟩
  refine ok_bd (R := fun r => r = unl (((([Fk.flo f] ++ f.Blocks.map Fk.block) ++ f.Walls.map Fk.wall) ++ f.Ports.map Fk.port).map Fk.text) ∧ 0 < r.size ∧ r.size ≤ 600) ?_ ?_
  · refine ok_lp (fun s => (0 ≤ s.2 ∧ s.2 ≤ f.Ports.length) ∧ s.1 = unl (((([Fk.flo f] ++ f.Blocks.map Fk.block) ++ f.Walls.map Fk.wall) ++ (f.Ports.take s.2.toNat).map Fk.port).map Fk.text) ∧ 0 < s.1.size ∧ (s.1.size : Int) ≤ 350 + 50 * s.2) (fun s => ((f.Ports.length : Int) - s.2).toNat) ⟨⟨by simp, by simp only; omega⟩, by simp only [Int.toNat_zero, List.take_zero, List.map_nil, List.append_nil]; exact hc0, hc1, by simp only; omega⟩ (by simp only; omega) ?_
    rintro ⟨bb, y⟩ ⟨⟨y0, y1⟩, y2, y3, y4⟩
    simp only at y0 y1 y2 y3 y4
    unfold P_layfmt_Floor_L20
    dsimp only
    refine ok_ite (fun hlt => ?_) fun hge => ok_some ⟨by rw [y2, show y.toNat = f.Ports.length by omega, List.take_length], by omega, by omega⟩
    have hG := hg (.port (gt f.Ports y)) (by simp only [flines, List.mem_append, List.mem_map]; exact .inl (.inr ⟨_, gt_mem ⟨y0, hlt⟩, rfl⟩))
    obtain ⟨g1, g2⟩ := hG
    have g3 := g2.free.2.2
    refine ok_ck ⟨y0, hlt⟩ (ok_lv (ok_bd (R := fun r => r = (Fk.port (gt f.Ports y)).word ++ (⟨#[32]⟩ ++ ⟨#[61]⟩) ∧ r.size ≤ 5) (ok_ite (fun hd => ok_some ⟨by rw [lit_outp, Fk.word, if_pos hd], by decide⟩) fun hd => ok_some ⟨by rw [lit_in, Fk.word, if_neg hd], by decide⟩) ?_))
    rintro wd ⟨hw, wz⟩
    refine ok_ck (by omega) (ok_bd (line_ok (w := wd ++ (gt f.Ports y).Name) (by simp only [ByteArray.size_append, sz_lit, List.size_toArray, List.length_cons, List.length_nil]; omega) g1 (by simp)) ?_)
    rintro s1 ⟨h1, z1⟩
    have z1 : s1.size ≤ 50 := Nat.le_trans z1 (by simp only [ByteArray.size_append, sz_lit, List.size_toArray, List.length_cons, List.length_nil]; omega)
    refine ok_ck (by omega) (ok_lv (ok_ar (by omega) (ok_some ⟨⟨⟨by simp only; omega, by simp only; omega⟩, ?_, (by simp only [ByteArray.size_append, sz_lit, List.size_toArray, List.length_cons, List.length_nil]; omega), (by simp only [ByteArray.size_append, sz_lit, List.size_toArray, List.length_cons, List.length_nil]; omega)⟩, by simp only; omega⟩)))
    simp only
    rw [unl_step Fk.text _ _ ⟨y0, hlt⟩, ← y2, h1, hw]
    simp only [Fk.text, Fk.tail, ByteArray.append_assoc]
  rintro b3 ⟨hd0, hd1, hd2⟩
  refine ok_bd (R := fun r => r = unl ((flines f ss).map Fk.text) ∧ 0 < r.size ∧ r.size ≤ 900) ?_ ?_
  · refine ok_lp (fun s => (0 ≤ s.2 ∧ s.2 ≤ ss.length) ∧ s.1 = unl ((((([Fk.flo f] ++ f.Blocks.map Fk.block) ++ f.Walls.map Fk.wall) ++ f.Ports.map Fk.port) ++ (ss.take s.2.toNat).map Fk.site).map Fk.text) ∧ 0 < s.1.size ∧ (s.1.size : Int) ≤ 600 + 50 * s.2) (fun s => ((ss.length : Int) - s.2).toNat) ⟨⟨by simp, by simp only; omega⟩, by simp only [Int.toNat_zero, List.take_zero, List.map_nil, List.append_nil]; exact hd0, hd1, by simp only; omega⟩ (by simp only; omega) ?_
    rintro ⟨bb, y⟩ ⟨⟨y0, y1⟩, y2, y3, y4⟩
    simp only at y0 y1 y2 y3 y4
    unfold P_layfmt_Floor_L28
    dsimp only
    refine ok_ite (fun hlt => ?_) fun hge => ok_some ⟨by rw [y2, show y.toNat = ss.length by omega, List.take_length]; rfl, by omega, by omega⟩
    have hG : Sm (Fk.site (gt ss y)).nums := hg (.site (gt ss y)) (by simp only [flines, List.mem_append, List.mem_map]; exact .inr ⟨_, gt_mem ⟨y0, hlt⟩, rfl⟩)
    refine ok_ck ⟨y0, hlt⟩ (ok_lv (ok_bd (line_ok (by decide) hG (by simp [Fk.nums])) ?_))
    rintro s1 ⟨h1, z1⟩
    have z1 : s1.size ≤ 50 := Nat.le_trans z1 (by simp only [ByteArray.size_append, sz_lit, List.size_toArray, List.length_cons, List.length_nil]; omega)
    refine ok_ck (by omega) (ok_lv (ok_ar (by omega) (ok_some ⟨⟨⟨by simp only; omega, by simp only; omega⟩, ?_, (by simp only [ByteArray.size_append, sz_lit, List.size_toArray, List.length_cons, List.length_nil]; omega), (by simp only [ByteArray.size_append, sz_lit, List.size_toArray, List.length_cons, List.length_nil]; omega)⟩, by simp only; omega⟩)))
    simp only
    rw [unl_step Fk.text _ _ ⟨y0, hlt⟩, ← y2, h1]
    rfl
  rintro b4 ⟨he0, he1, he2⟩
  exact ok_ck he1 (ok_some ⟨by rw [he0], by rw [← he0]; omega⟩)
end
end Go.Proofs.YtlolchgeedegdaaDoor.X
