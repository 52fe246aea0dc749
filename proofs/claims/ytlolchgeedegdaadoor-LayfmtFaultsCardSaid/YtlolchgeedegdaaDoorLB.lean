/- Lines of a word and numbers: written, and read. The text of a layout. Plain. -/
import Derived.Test.YtlolchgeedegdaaDoorLA
namespace Go.Proofs.YtlolchgeedegdaaDoor.X
open Go Go.RowKit
set_option linter.unusedVariables false
set_option linter.unusedSimpArgs false
set_option linter.unusedSectionVars false
theorem take_snoc {α : Type} [Inhabited α] {xs : List α} {y : Int} (h : inb y xs.length) : xs.take (y + 1).toNat = xs.take y.toNat ++ [gt xs y] := by
  obtain ⟨k, rfl⟩ := Int.eq_ofNat_of_zero_le h.1
  have hk : k < xs.length := by have := h.2; omega
  rw [show ((k : Int) + 1).toNat = k + 1 by omega, Int.toNat_natCast, List.take_succ_eq_append_getElem hk]
  simp [gt, List.getD_eq_getElem?_getD, hk]
theorem mem_gt {α : Type} [Inhabited α] {xs : List α} {x : α} (h : x ∈ xs) : ∃ i, inb i xs.length ∧ gt xs i = x := by
  obtain ⟨k, hk, e⟩ := List.getElem_of_mem h
  exact ⟨k, ⟨by omega, by omega⟩, by simp [gt, List.getD_eq_getElem?_getD, hk, e]⟩
theorem gt_map {α β : Type} [Inhabited α] [Inhabited β] (f : α → β) {xs : List α} {y : Int} (h : inb y xs.length) : gt (xs.map f) y = f (gt xs y) := by
  obtain ⟨k, rfl⟩ := Int.eq_ofNat_of_zero_le h.1
  have hk : k < xs.length := by have := h.2; omega
  simp [gt, List.getD_eq_getElem?_getD, hk]
theorem empty_app (s : ByteArray) : (⟨#[]⟩ : ByteArray) ++ s = s := ba_ext (by simp [ByteArray.data_append])
theorem app_empty (s : ByteArray) : s ++ (⟨#[]⟩ : ByteArray) = s := ba_ext (by simp [ByteArray.data_append])
theorem unl_step {α κ : Type} [Inhabited α] (tx : κ → ByteArray) (pre : List κ) (f : α → κ) {xs : List α} {y : Int} (h : inb y xs.length) :
    unl ((pre ++ (xs.take (y + 1).toNat).map f).map tx) = unl ((pre ++ (xs.take y.toNat).map f).map tx) ++ (tx (f (gt xs y)) ++ ⟨#[10]⟩) := by
  rw [take_snoc h, List.map_append (f := f), ← List.append_assoc, List.map_append (f := tx), List.map_singleton, List.map_singleton, unl_snoc]
/-- Numbers behind a word. -/
def numsT : List Int → ByteArray
  | [] => ⟨#[]⟩
  | n :: ns => ⟨#[32]⟩ ++ (itoa n ++ numsT ns)
theorem numsT_snoc (n : Int) : ∀ ns : List Int, numsT (ns ++ [n]) = numsT ns ++ ((⟨#[32]⟩ : ByteArray) ++ itoa n)
  | [] => by
    show (⟨#[32]⟩ : ByteArray) ++ (itoa n ++ (⟨#[]⟩ : ByteArray)) = ⟨#[]⟩ ++ ((⟨#[32]⟩ : ByteArray) ++ itoa n)
    rw [app_empty, empty_app]
  | m :: ns => by
    rw [List.cons_append, numsT, numsT, numsT_snoc n ns]
    simp only [ByteArray.append_assoc]
/-- Small numbers. -/
def Sm (ns : List Int) : Prop := ∀ n ∈ ns, 0 ≤ n ∧ n ≤ 200
theorem Sm.at {ns : List Int} (h : Sm ns) {i : Int} (hi : inb i ns.length) : 0 ≤ gt ns i ∧ gt ns i ≤ 200 := h _ (gt_mem hi)
theorem splitS_nums : ∀ {ns : List Int} {a : ByteArray}, Free 32 a → Sm ns → splitS (a ++ numsT ns) ⟨#[32]⟩ = a :: ns.map itoa
  | [], a, ha, _ => by
    rw [show numsT [] = (⟨#[]⟩ : ByteArray) from rfl, app_empty]
    exact splitS_free ha
  | n :: ns, a, ha, h => by
    have hn := h n (by simp)
    rw [numsT, splitS_at ha, splitS_nums (num_ok hn.1 hn.2).2.2.1 (fun m hm => h m (by simp [hm]))]
    rfl
theorem free10_sp : Free 10 (⟨#[32]⟩ : ByteArray) := by simp [Free]
theorem numsT_free : ∀ {ns : List Int}, Sm ns → Free 10 (numsT ns)
  | [], _ => by simp [numsT, Free]
  | n :: ns, h => by
    have hn := h n (by simp)
    rw [numsT]
    exact free10_sp.app ((num_ok hn.1 hn.2).2.1.app (numsT_free fun m hm => h m (by simp [hm])))
theorem numsT_size : ∀ {ns : List Int}, Sm ns → (numsT ns).size ≤ 4 * ns.length
  | [], _ => Nat.le_refl 0
  | n :: ns, h => by
    have hn := h n (by simp)
    have a := (num_ok hn.1 hn.2).2.2.2
    have b := numsT_size (ns := ns) fun m hm => h m (by simp [hm])
    rw [numsT]
    simp only [ByteArray.size_append, sz_lit, List.size_toArray, List.length_cons, List.length_nil]
    omega
theorem line_ok {w : ByteArray} {ns : List Int} (hw : w.size ≤ 200) (hn : Sm ns) (hl : ns.length ≤ 10) : Ok (P_layfmt_line w ns) (fun r => r = (w ++ numsT ns) ++ ⟨#[10]⟩ ∧ r.size ≤ w.size + 4 * ns.length + 1) := by
  unfold P_layfmt_line
  have hz := numsT_size hn
  refine ok_bd (R := fun r => r = w ++ numsT ns) ?_ ?_
  · refine ok_lp (fun s => (0 ≤ s.2 ∧ s.2 ≤ ns.length) ∧ s.1 = w ++ numsT (ns.take s.2.toNat)) (fun s => ((ns.length : Int) - s.2).toNat) ⟨⟨by simp, by simp only; omega⟩, (app_empty w).symm⟩ (by simp only; omega) ?_
    rintro ⟨b, y⟩ ⟨⟨y0, y1⟩, y2⟩
    simp only at y0 y1 y2
    unfold P_layfmt_line_L2
    dsimp only
    refine ok_ite (fun hlt => ?_) fun hge => ok_some (by rw [y2, show y.toNat = ns.length by omega, List.take_length])
    have hi := hn.at ⟨y0, hlt⟩
    have a := (num_ok hi.1 hi.2).2.2.2
    have c := numsT_size (ns := ns.take y.toNat) fun m hm => hn m (List.mem_of_mem_take hm)
    have d : (ns.take y.toNat).length ≤ 10 := by rw [List.length_take]; omega
    refine ok_ck ⟨y0, hlt⟩ (ok_lv (ok_bd (itoaP_ok hi.1 hi.2) ?_))
    rintro _ rfl
    subst y2
    refine ok_ck (by simp only [ByteArray.size_append, sz_lit, List.size_toArray, List.length_cons, List.length_nil]; omega) (ok_ck (by simp only [ByteArray.size_append, sz_lit, List.size_toArray, List.length_cons, List.length_nil]; omega) (ok_ar (by omega) (ok_some ⟨⟨⟨by simp only; omega, by simp only; omega⟩, ?_⟩, by simp only; omega⟩)))
    simp only
    rw [take_snoc ⟨y0, hlt⟩, numsT_snoc]
    simp only [ByteArray.append_assoc]
  rintro _ rfl
  exact ok_ck (by simp only [ByteArray.size_append, sz_lit, List.size_toArray, List.length_cons, List.length_nil]; omega) (ok_some ⟨rfl, (by simp only [ByteArray.size_append, sz_lit, List.size_toArray, List.length_cons, List.length_nil]; omega)⟩)
theorem numsL_ok {ns : List Int} (hn : Sm ns) (hl : ns.length ≤ 10) {k : List Int → Option (ByteArray × List Int × Bool)} {Q : ByteArray × List Int × Bool → Prop} (hk : Ok (k ns) Q) : Ok (bs (lp (P_layfmt_words_L4 (ns.map itoa)) fuel ([], 0)) (fun y => some y) k) Q := by
  refine ok_bs1 (R := fun r => r = ns) ?_ (by rintro _ rfl; exact hk)
  refine ok_lp (fun s => (0 ≤ s.2 ∧ s.2 ≤ ns.length) ∧ s.1 = ns.take s.2.toNat) (fun s => ((ns.length : Int) - s.2).toNat) ⟨⟨by simp, by simp only; omega⟩, by simp⟩ (by simp only; omega) ?_
  rintro ⟨out, y⟩ ⟨⟨y0, y1⟩, y2⟩
  simp only at y0 y1 y2
  subst y2
  unfold P_layfmt_words_L4
  dsimp only
  rw [List.length_map]
  refine ok_ite (fun hlt => ?_) fun hge => ok_some ⟨_, rfl, by rw [show y.toNat = ns.length by omega, List.take_length]⟩
  have hi := hn.at ⟨y0, hlt⟩
  refine ok_ck ⟨y0, hlt⟩ (ok_lv ?_)
  rw [gt_map itoa ⟨y0, hlt⟩]
  refine ok_bd (atoiP_ok hi.1 hi.2) ?_
  rintro _ rfl
  refine ok_bd (itoaP_ok hi.1 hi.2) ?_
  rintro _ rfl
  refine ok_f (by simp) (ok_lv (ok_ck (by simp only [apOk, List.length_append, List.length_singleton, List.length_take]; omega) (ok_ar (by omega) (ok_some ⟨⟨⟨by simp only; omega, by simp only; omega⟩, ?_⟩, by simp only; omega⟩))))
  simp only
  rw [take_snoc ⟨y0, hlt⟩]
theorem words_ok {w : ByteArray} {ns : List Int} (hw : Free 32 w) (hz : w.size ≤ 200) (hn : Sm ns) (hl : ns.length ≤ 10) {c : Int} (hc : P_layfmt_count w = some c) : Ok (P_layfmt_words (w ++ numsT ns)) (fun r => r = (w, ns, decide ((ns.length : Int) = c))) := by
  have hs := numsT_size hn
  unfold P_layfmt_words
  refine ok_bd (R := fun r => r = w :: ns.map itoa) ?_ ?_
  · unfold P_strings_Split
    exact ok_ck ⟨(by simp only [ByteArray.size_append, sz_lit, List.size_toArray, List.length_cons, List.length_nil]; omega), Nat.le_refl 1⟩ (ok_some (splitS_nums hw hn))
  rintro _ rfl
  refine ok_ck ⟨by omega, by simp only [List.length_cons]; omega, by omega⟩ (ok_lv ?_)
  rw [show sub (w :: ns.map itoa) 1 ((w :: ns.map itoa).length : Int) = ns.map itoa by simp [X.sub]; exact List.take_of_length_le (by simp)]
  refine numsL_ok hn hl (ok_ck ⟨by omega, by simp⟩ (ok_lv (ok_ck ⟨by omega, by simp⟩ (ok_lv ?_))))
  rw [show gt (w :: ns.map itoa) 0 = w from rfl]
  exact ok_bd (ok_eq hc rfl) (by rintro _ rfl; exact ok_some rfl)
theorem lines_ok {ls : List ByteArray} (h : ∀ x ∈ ls, Free 10 x) (hz : (unl ls).size ≤ 100000) (hl : ls.length ≤ 1000) : Ok (P_layfmt_lines (unl ls)) (fun r => r = (ls, true)) := by
  unfold P_layfmt_lines
  refine ok_bd (R := fun r => r = ls ++ [⟨#[]⟩]) ?_ ?_
  · unfold P_strings_Split
    exact ok_ck ⟨by omega, Nat.le_refl 1⟩ (ok_some (split_unl h))
  rintro _ rfl
  have e : ((ls ++ [(⟨#[]⟩ : ByteArray)]).length : Int) = ls.length + 1 := by simp only [List.length_append, List.length_singleton]; omega
  have e2 : ((ls ++ [(⟨#[]⟩ : ByteArray)]).length : Int) - 1 = ls.length := by omega
  have e3 : sub (ls ++ [(⟨#[]⟩ : ByteArray)]) 0 (ls.length : Int) = ls := by simp [X.sub]
  refine ok_ar (by omega) (ok_ck ⟨by omega, by omega, by omega⟩ (ok_lv (ok_ar (by omega) (ok_ck ⟨by omega, by omega⟩ (ok_lv (ok_some ?_))))))
  rw [e2, e3, gt_app_1 rfl]
  simp
/-- A line of a layout. -/
inductive Lk where
  | lay (l : T_rules_Layout)
  | wall (x : T_floor_Wall)
  | pin (p : T_rules_Pin)
  | wire (w : T_rules_Wire)
  | via (v : T_rules_Via)
instance : Inhabited Lk := ⟨.via default⟩
def Lk.word : Lk → ByteArray
  | .lay _ => ⟨#[108, 97, 121, 111, 117, 116]⟩
  | .wall _ => ⟨#[119, 97, 108, 108]⟩
  | .pin p => if p.Drive = true then ⟨#[100, 114, 105, 118, 101]⟩ else ⟨#[112, 105, 110]⟩
  | .wire _ => ⟨#[119, 105, 114, 101]⟩
  | .via _ => ⟨#[118, 105, 97]⟩
def Lk.nums : Lk → List Int
  | .lay l => [l.W, l.H, l.Layers, l.Nets]
  | .wall x => [x.Layer, x.X0, x.Y0, x.X1, x.Y1]
  | .pin p => if p.Drive = true then [p.Net, p.X, p.Y] else [p.Net, p.X, p.Y, p.Size]
  | .wire w => [w.Net, w.Layer, w.X0, w.Y0, w.X1, w.Y1]
  | .via v => [v.Net, v.Layer, v.X, v.Y]
def Lk.text (k : Lk) : ByteArray := k.word ++ numsT k.nums
def Lk.part : Lk → Int
  | .lay _ => 0
  | .wall _ => 1
  | .pin _ => 2
  | .wire _ => 3
  | .via _ => 4
def llines (l : T_rules_Layout) : List Lk := ((([Lk.lay l] ++ l.Walls.map Lk.wall) ++ l.Pins.map Lk.pin) ++ l.Wires.map Lk.wire) ++ l.Vias.map Lk.via
theorem Sm.of {ns : List Int} (h : ns.all (fun n => decide (0 ≤ n) && decide (n ≤ 200)) = true) : Sm ns := fun n hn => by
  have := List.all_eq_true.1 h n hn
  simpa using this
section
variable {l : T_rules_Layout} (hl : LayN l)
include hl
theorem sm_lay : Sm (Lk.lay l).nums := by
  have a := hl.W
  have b := hl.H
  have c := hl.Ly
  have d := hl.N
  intro n hn
  simp only [Lk.nums, List.mem_cons, List.not_mem_nil, or_false] at hn
  omega
theorem sm_wall {x : T_floor_Wall} (h : WallN l.W l.H l.Layers x) : Sm (Lk.wall x).nums := by
  have a := hl.W
  have b := hl.H
  have c := hl.Ly
  have d := h.layer
  have e := h.x
  have f := h.y
  intro n hn
  simp only [Lk.nums, List.mem_cons, List.not_mem_nil, or_false] at hn
  omega
theorem sm_pin {x : T_rules_Pin} (h : PinN l.W l.H l.Nets x) : Sm (Lk.pin x).nums := by
  have a := hl.W
  have b := hl.H
  have c := hl.N
  have d := h.net
  have e := h.x
  have f := h.y
  have g := h.size
  intro n hn
  rw [Lk.nums] at hn
  split at hn <;> simp only [List.mem_cons, List.not_mem_nil, or_false] at hn <;> omega
theorem sm_wire {x : T_rules_Wire} (h : WireN l.W l.H l.Layers l.Nets x) : Sm (Lk.wire x).nums := by
  have a := hl.W
  have b := hl.H
  have c := hl.Ly
  have c2 := hl.N
  have d := h.layer
  have e := h.x
  have f := h.y
  have g := h.net
  intro n hn
  simp only [Lk.nums, List.mem_cons, List.not_mem_nil, or_false] at hn
  omega
theorem sm_via {x : T_rules_Via} (h : ViaN l.W l.H l.Layers l.Nets x) : Sm (Lk.via x).nums := by
  have a := hl.W
  have b := hl.H
  have c := hl.Ly
  have c2 := hl.N
  have d := h.layer
  have e := h.x
  have f := h.y
  have g := h.net
  intro n hn
  simp only [Lk.nums, List.mem_cons, List.not_mem_nil, or_false] at hn
  omega
theorem LText_ok : Ok (P_layfmt_Text l) (fun r => r = (unl ((llines l).map Lk.text), 0) ∧ (unl ((llines l).map Lk.text)).size ≤ 2000) := by
  have e1 := hl.wireL
  have e2 := hl.viaL
  have e3 := hl.pinL
  have e4 := hl.wallL
  unfold P_layfmt_Text
  refine ok_bd (RCheck_ok hl) ?_
  rintro _ rfl
  refine ok_f (by simp) (ok_bd (line_ok (by decide) (sm_lay hl) (by simp [Lk.nums])) ?_)
  rintro s0 ⟨hs, hz⟩
  have hz : s0.size ≤ 50 := Nat.le_trans hz (by simp only [ByteArray.size_append, sz_lit, List.size_toArray, List.length_cons, List.length_nil]; omega)
  have hs0 : s0 = unl [(Lk.lay l).text] := by
    rw [hs]
    show _ = (Lk.lay l).text ++ (⟨#[10]⟩ ++ (⟨#[]⟩ : ByteArray))
    rw [app_empty]; rfl
  have hp : 0 < s0.size := by rw [hs]; simp only [ByteArray.size_append, sz_lit, List.size_toArray, List.length_cons, List.length_nil]; omega
  refine ok_ck (by simp only [ByteArray.size_append, sz_lit, List.size_toArray, List.length_cons, List.length_nil]; omega) (ok_lv ?_)
  rw [empty_app]
  refine ok_bd (R := fun r => r = unl (([Lk.lay l] ++ l.Walls.map Lk.wall).map Lk.text) ∧ 0 < r.size ∧ r.size ≤ 150) ?_ ?_
  · refine ok_lp (fun s => (0 ≤ s.2 ∧ s.2 ≤ l.Walls.length) ∧ s.1 = unl (([Lk.lay l] ++ (l.Walls.take s.2.toNat).map Lk.wall).map Lk.text) ∧ 0 < s.1.size ∧ (s.1.size : Int) ≤ 50 + 50 * s.2) (fun s => ((l.Walls.length : Int) - s.2).toNat) ⟨⟨by simp, by simp only; omega⟩, hs0, hp, by simp only; omega⟩ (by simp only; omega) ?_
    rintro ⟨bb, y⟩ ⟨⟨y0, y1⟩, y2, y3, y4⟩
    simp only at y0 y1 y2 y3 y4
    unfold P_layfmt_Text_L7
    dsimp only
    refine ok_ite (fun hlt => ?_) fun hge => ok_some ⟨by rw [y2, show y.toNat = l.Walls.length by omega, List.take_length], by omega, by omega⟩
    refine ok_ck ⟨y0, hlt⟩ (ok_lv (ok_bd (line_ok (by decide) (sm_wall hl (hl.wall y ⟨y0, hlt⟩)) (by simp [Lk.nums])) ?_))
    rintro s1 ⟨h1, z1⟩
    have z1 : s1.size ≤ 50 := Nat.le_trans z1 (by simp only [ByteArray.size_append, sz_lit, List.size_toArray, List.length_cons, List.length_nil]; omega)
    refine ok_ck (by omega) (ok_lv (ok_ar (by omega) (ok_some ⟨⟨⟨by simp only; omega, by simp only; omega⟩, ?_, (by simp only [ByteArray.size_append, sz_lit, List.size_toArray, List.length_cons, List.length_nil]; omega), (by simp only [ByteArray.size_append, sz_lit, List.size_toArray, List.length_cons, List.length_nil]; omega)⟩, by simp only; omega⟩)))
    simp only
    rw [unl_step Lk.text _ _ ⟨y0, hlt⟩, ← y2, h1]
    rfl
  rintro b1 ⟨hb0, hb1, hb2⟩
  refine ok_bd (R := fun r => r = unl ((([Lk.lay l] ++ l.Walls.map Lk.wall) ++ l.Pins.map Lk.pin).map Lk.text) ∧ 0 < r.size ∧ r.size ≤ 450) ?_ ?_
  · refine ok_lp (fun s => (0 ≤ s.2 ∧ s.2 ≤ l.Pins.length) ∧ s.1 = unl ((([Lk.lay l] ++ l.Walls.map Lk.wall) ++ (l.Pins.take s.2.toNat).map Lk.pin).map Lk.text) ∧ 0 < s.1.size ∧ (s.1.size : Int) ≤ 150 + 50 * s.2) (fun s => ((l.Pins.length : Int) - s.2).toNat) ⟨⟨by simp, by simp only; omega⟩, by simp only [Int.toNat_zero, List.take_zero, List.map_nil, List.append_nil]; exact hb0, hb1, by simp only; omega⟩ (by simp only; omega) ?_
    rintro ⟨bb, y⟩ ⟨⟨y0, y1⟩, y2, y3, y4⟩
    simp only at y0 y1 y2 y3 y4
    unfold P_layfmt_Text_L12
    dsimp only
    refine ok_ite (fun hlt => ?_) fun hge => ok_some ⟨by rw [y2, show y.toNat = l.Pins.length by omega, List.take_length], by omega, by omega⟩
    have hsm := sm_pin hl (hl.pin y ⟨y0, hlt⟩)
    refine ok_ck ⟨y0, hlt⟩ (ok_lv (ok_bd (R := fun r => r = bb ++ ((Lk.pin (gt l.Pins y)).text ++ ⟨#[10]⟩) ∧ 0 < r.size ∧ r.size ≤ bb.size + 50) (ok_ite (fun hd => ?_) fun hd => ?_) ?_))
    · rw [Lk.nums, if_pos hd] at hsm
      refine ok_bd (line_ok (by decide) hsm (by simp)) ?_
      rintro s1 ⟨h1, z1⟩
      have z1 : s1.size ≤ 50 := Nat.le_trans z1 (by simp only [ByteArray.size_append, sz_lit, List.size_toArray, List.length_cons, List.length_nil]; omega)
      refine ok_ck (by omega) (ok_lv (ok_some ⟨?_, (by simp only [ByteArray.size_append, sz_lit, List.size_toArray, List.length_cons, List.length_nil]; omega), (by simp only [ByteArray.size_append, sz_lit, List.size_toArray, List.length_cons, List.length_nil]; omega)⟩))
      rw [h1, Lk.text, Lk.word, Lk.nums, if_pos hd, if_pos hd]
    · rw [Lk.nums, if_neg hd] at hsm
      refine ok_bd (line_ok (by decide) hsm (by simp)) ?_
      rintro s1 ⟨h1, z1⟩
      have z1 : s1.size ≤ 50 := Nat.le_trans z1 (by simp only [ByteArray.size_append, sz_lit, List.size_toArray, List.length_cons, List.length_nil]; omega)
      refine ok_ck (by omega) (ok_lv (ok_some ⟨?_, (by simp only [ByteArray.size_append, sz_lit, List.size_toArray, List.length_cons, List.length_nil]; omega), (by simp only [ByteArray.size_append, sz_lit, List.size_toArray, List.length_cons, List.length_nil]; omega)⟩))
      rw [h1, Lk.text, Lk.word, Lk.nums, if_neg hd, if_neg hd]
    rintro b2 ⟨h1, z1, z2⟩
    refine ok_ar (by omega) (ok_some ⟨⟨⟨by simp only; omega, by simp only; omega⟩, ?_, z1, by simp only; omega⟩, by simp only; omega⟩)
    simp only
    rw [unl_step Lk.text _ _ ⟨y0, hlt⟩, ← y2, h1]
  rintro b2 ⟨hc0, hc1, hc2⟩
  refine ok_bd (R := fun r => r = unl (((([Lk.lay l] ++ l.Walls.map Lk.wall) ++ l.Pins.map Lk.pin) ++ l.Wires.map Lk.wire).map Lk.text) ∧ 0 < r.size ∧ r.size ≤ 850) ?_ ?_
  · refine ok_lp (fun s => (0 ≤ s.2 ∧ s.2 ≤ l.Wires.length) ∧ s.1 = unl (((([Lk.lay l] ++ l.Walls.map Lk.wall) ++ l.Pins.map Lk.pin) ++ (l.Wires.take s.2.toNat).map Lk.wire).map Lk.text) ∧ 0 < s.1.size ∧ (s.1.size : Int) ≤ 450 + 50 * s.2) (fun s => ((l.Wires.length : Int) - s.2).toNat) ⟨⟨by simp, by simp only; omega⟩, by simp only [Int.toNat_zero, List.take_zero, List.map_nil, List.append_nil]; exact hc0, hc1, by simp only; omega⟩ (by simp only; omega) ?_
    rintro ⟨bb, y⟩ ⟨⟨y0, y1⟩, y2, y3, y4⟩
    simp only at y0 y1 y2 y3 y4
    unfold P_layfmt_Text_L19
    dsimp only
    refine ok_ite (fun hlt => ?_) fun hge => ok_some ⟨by rw [y2, show y.toNat = l.Wires.length by omega, List.take_length], by omega, by omega⟩
    refine ok_ck ⟨y0, hlt⟩ (ok_lv (ok_bd (line_ok (by decide) (sm_wire hl (hl.wire y ⟨y0, hlt⟩)) (by simp [Lk.nums])) ?_))
    rintro s1 ⟨h1, z1⟩
    have z1 : s1.size ≤ 50 := Nat.le_trans z1 (by simp only [ByteArray.size_append, sz_lit, List.size_toArray, List.length_cons, List.length_nil]; omega)
    refine ok_ck (by omega) (ok_lv (ok_ar (by omega) (ok_some ⟨⟨⟨by simp only; omega, by simp only; omega⟩, ?_, (by simp only [ByteArray.size_append, sz_lit, List.size_toArray, List.length_cons, List.length_nil]; omega), (by simp only [ByteArray.size_append, sz_lit, List.size_toArray, List.length_cons, List.length_nil]; omega)⟩, by simp only; omega⟩)))
    simp only
    rw [unl_step Lk.text _ _ ⟨y0, hlt⟩, ← y2, h1]
    rfl
  rintro b3 ⟨hd0, hd1, hd2⟩
  refine ok_bd (R := fun r => r = unl ((llines l).map Lk.text) ∧ 0 < r.size ∧ r.size ≤ 1100) ?_ ?_
  · refine ok_lp (fun s => (0 ≤ s.2 ∧ s.2 ≤ l.Vias.length) ∧ s.1 = unl ((((([Lk.lay l] ++ l.Walls.map Lk.wall) ++ l.Pins.map Lk.pin) ++ l.Wires.map Lk.wire) ++ (l.Vias.take s.2.toNat).map Lk.via).map Lk.text) ∧ 0 < s.1.size ∧ (s.1.size : Int) ≤ 850 + 50 * s.2) (fun s => ((l.Vias.length : Int) - s.2).toNat) ⟨⟨by simp, by simp only; omega⟩, by simp only [Int.toNat_zero, List.take_zero, List.map_nil, List.append_nil]; exact hd0, hd1, by simp only; omega⟩ (by simp only; omega) ?_
    rintro ⟨bb, y⟩ ⟨⟨y0, y1⟩, y2, y3, y4⟩
    simp only at y0 y1 y2 y3 y4
    unfold P_layfmt_Text_L24
    dsimp only
    refine ok_ite (fun hlt => ?_) fun hge => ok_some ⟨by rw [y2, show y.toNat = l.Vias.length by omega, List.take_length]; rfl, by omega, by omega⟩
    refine ok_ck ⟨y0, hlt⟩ (ok_lv (ok_bd (line_ok (by decide) (sm_via hl (hl.via y ⟨y0, hlt⟩)) (by simp [Lk.nums])) ?_))
    rintro s1 ⟨h1, z1⟩
    have z1 : s1.size ≤ 50 := Nat.le_trans z1 (by simp only [ByteArray.size_append, sz_lit, List.size_toArray, List.length_cons, List.length_nil]; omega)
    refine ok_ck (by omega) (ok_lv (ok_ar (by omega) (ok_some ⟨⟨⟨by simp only; omega, by simp only; omega⟩, ?_, (by simp only [ByteArray.size_append, sz_lit, List.size_toArray, List.length_cons, List.length_nil]; omega), (by simp only [ByteArray.size_append, sz_lit, List.size_toArray, List.length_cons, List.length_nil]; omega)⟩, by simp only; omega⟩)))
    simp only
    rw [unl_step Lk.text _ _ ⟨y0, hlt⟩, ← y2, h1]
    rfl
  rintro b4 ⟨he0, he1, he2⟩
  exact ok_f (by omega) (ok_ck he1 (ok_some ⟨by rw [he0], by rw [← he0]; omega⟩))
end
end Go.Proofs.YtlolchgeedegdaaDoor.X
