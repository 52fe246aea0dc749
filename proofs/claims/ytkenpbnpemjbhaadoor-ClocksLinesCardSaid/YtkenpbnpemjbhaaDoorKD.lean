/- The text of limits. Plain. -/
import Derived.Test.YtkenpbnpemjbhaaDoorKC
namespace Go.Proofs.YtkenpbnpemjbhaaDoor.X
open Go Go.RowKit
set_option linter.unusedVariables false
set_option linter.unusedSimpArgs false
set_option linter.unusedSectionVars false
/-- A name in an exception. -/
def stW (s : ByteArray) : ByteArray := if s = (⟨#[]⟩ : ByteArray) then ⟨#[42]⟩ else (⟨#[61]⟩ : ByteArray) ++ s
/-- A line of limits. -/
inductive Ln where
  | per (n : Int)
  | inp (x : T_clocks_Input)
  | out (x : T_clocks_Output)
  | pth (x : T_clocks_Path)
instance : Inhabited Ln := ⟨.per 0⟩
def Ln.text : Ln → ByteArray
  | .per n => ⟨#[112, 101, 114, 105, 111, 100]⟩ ++ ((⟨#[32]⟩ : ByteArray) ++ itoa n)
  | .inp x => ⟨#[105, 110, 112, 117, 116]⟩ ++ ((⟨#[32]⟩ : ByteArray) ++ (x.Name ++ ((⟨#[32]⟩ : ByteArray) ++ (itoa x.At.Lo ++ ((⟨#[32]⟩ : ByteArray) ++ itoa x.At.Hi)))))
  | .out x => ⟨#[111, 117, 116, 112, 117, 116]⟩ ++ ((⟨#[32]⟩ : ByteArray) ++ (x.Name ++ ((⟨#[32]⟩ : ByteArray) ++ itoa x.Before)))
  | .pth x => if x.Cycles = 0 then ⟨#[102, 97, 108, 115, 101]⟩ ++ ((⟨#[32]⟩ : ByteArray) ++ (stW x.From ++ ((⟨#[32]⟩ : ByteArray) ++ stW x.To)))
      else ⟨#[109, 117, 108, 116, 105]⟩ ++ ((⟨#[32]⟩ : ByteArray) ++ (itoa x.Cycles ++ ((⟨#[32]⟩ : ByteArray) ++ (stW x.From ++ ((⟨#[32]⟩ : ByteArray) ++ stW x.To)))))
def lines (l : T_clocks_Limits) : List Ln := (([Ln.per l.Period] ++ l.Inputs.map Ln.inp) ++ l.Outputs.map Ln.out) ++ l.Paths.map Ln.pth
theorem lit_per : (⟨#[112, 101, 114, 105, 111, 100, 32]⟩ : ByteArray) = ⟨#[112, 101, 114, 105, 111, 100]⟩ ++ ⟨#[32]⟩ := by decide +kernel
theorem lit_inp : (⟨#[105, 110, 112, 117, 116, 32]⟩ : ByteArray) = ⟨#[105, 110, 112, 117, 116]⟩ ++ ⟨#[32]⟩ := by decide +kernel
theorem lit_out : (⟨#[111, 117, 116, 112, 117, 116, 32]⟩ : ByteArray) = ⟨#[111, 117, 116, 112, 117, 116]⟩ ++ ⟨#[32]⟩ := by decide +kernel
theorem lit_false : (⟨#[102, 97, 108, 115, 101, 32]⟩ : ByteArray) = ⟨#[102, 97, 108, 115, 101]⟩ ++ ⟨#[32]⟩ := by decide +kernel
theorem lit_multi : (⟨#[109, 117, 108, 116, 105, 32]⟩ : ByteArray) = ⟨#[109, 117, 108, 116, 105]⟩ ++ ⟨#[32]⟩ := by decide +kernel
theorem take_snoc {α : Type} [Inhabited α] {xs : List α} {y : Int} (h : inb y xs.length) : xs.take (y + 1).toNat = xs.take y.toNat ++ [gt xs y] := by
  obtain ⟨k, rfl⟩ := Int.eq_ofNat_of_zero_le h.1
  have hk : k < xs.length := by have := h.2; omega
  rw [show ((k : Int) + 1).toNat = k + 1 by omega, Int.toNat_natCast, List.take_succ_eq_append_getElem hk]
  simp [gt, List.getD_eq_getElem?_getD, hk]
theorem unl_step {α : Type} [Inhabited α] (pre : List Ln) (f : α → Ln) {xs : List α} {y : Int} (h : inb y xs.length) :
    unl ((pre ++ (xs.take (y + 1).toNat).map f).map Ln.text) = unl ((pre ++ (xs.take y.toNat).map f).map Ln.text) ++ ((f (gt xs y)).text ++ ⟨#[10]⟩) := by
  rw [take_snoc h, List.map_append (f := f), ← List.append_assoc, List.map_append (f := Ln.text), List.map_singleton, List.map_singleton, unl_snoc]
theorem write1_ok {n : Int} (h0 : 0 ≤ n) (h1 : n ≤ 200) : Ok (P_clocks_write_1 n) (fun r => r = itoa n ∧ r.size ≤ 3) := by
  unfold P_clocks_write_1
  refine ok_bd (itoaP_ok h0 h1) ?_
  rintro _ rfl
  exact ok_some ⟨rfl, (num_ok h0 h1).2.2.2⟩
theorem write2_ok {s : ByteArray} (h : s.size ≤ 6) : Ok (P_clocks_write_2 s) (fun r => r = stW s ∧ r.size ≤ 7) := by
  unfold P_clocks_write_2 stW
  refine ok_ite (fun e => ok_some ⟨by rw [if_pos e], by decide⟩) fun e => ok_ck (by simp only [ByteArray.size_append, sz_lit, List.size_toArray, List.length_cons, List.length_nil]; omega) (ok_some ⟨by rw [if_neg e], (by simp only [ByteArray.size_append, sz_lit, List.size_toArray, List.length_cons, List.length_nil]; omega)⟩)
theorem empty_app (s : ByteArray) : (⟨#[]⟩ : ByteArray) ++ s = s := ba_ext (by simp [ByteArray.data_append])
theorem app_empty (s : ByteArray) : s ++ (⟨#[]⟩ : ByteArray) = s := ba_ext (by simp [ByteArray.data_append])
section
variable {n : T_api_Netlist} {ins flops outs : Int} (h : NetW n ins flops outs) (hi : 1 ≤ ins ∧ ins ≤ 5) (hf : 0 ≤ flops ∧ flops ≤ 4) (ho : 1 ≤ outs ∧ outs ≤ 5)
  {p : Bool} {l : T_clocks_Limits} (hl : LimW n p l) (hp : l.Period ≤ 200)
include h hi hf ho hl hp
theorem name_in {s : ByteArray} (hs : NameW n.In n.Flops s) : s = (⟨#[]⟩ : ByteArray) ∨ Word s := by
  rcases hs with e | ⟨a, ha, rfl⟩ | ⟨a, ha, rfl⟩
  · exact .inl e
  · exact .inr (h.inW a ⟨ha.1, by omega⟩).word
  · exact .inr (h.flW a ha)
theorem name_out {s : ByteArray} (hs : NameW n.Out n.Flops s) : s = (⟨#[]⟩ : ByteArray) ∨ Word s := by
  rcases hs with e | ⟨a, ha, rfl⟩ | ⟨a, ha, rfl⟩
  · exact .inl e
  · exact .inr (h.outW a ⟨ha.1, by omega⟩).word
  · exact .inr (h.flW a ha)
theorem word_inp {y : Int} (hy : inb y l.Inputs.length) : Word (gt l.Inputs y).Name := by
  obtain ⟨⟨a, ha, e⟩, -⟩ := hl.inp y hy
  rw [e]
  exact (h.inW a ⟨ha.1, by omega⟩).word
theorem word_out {y : Int} (hy : inb y l.Outputs.length) : Word (gt l.Outputs y).Name := by
  obtain ⟨⟨a, ha, e⟩, -⟩ := hl.out y hy
  rw [e]
  exact (h.outW a ⟨ha.1, by omega⟩).word
theorem write_ok : Ok (P_clocks_write l) (fun r => r = unl ((lines l).map Ln.text) ∧ 0 < r.size ∧ r.size ≤ 1000) := by
  have a := hl.inL
  have b := hl.outL
  have c := hl.pL
  have d := h.inL
  have e := h.outL
  unfold P_clocks_write
  refine ok_bd (write1_ok (by have := hl.per; omega) hp) ?_
  rintro _ ⟨rfl, hs0⟩
  refine ok_ck (by simp only [ByteArray.size_append, sz_lit, List.size_toArray, List.length_cons, List.length_nil]; omega) (ok_ck (by simp only [ByteArray.size_append, sz_lit, List.size_toArray, List.length_cons, List.length_nil]; omega) (ok_ck (by simp only [ByteArray.size_append, sz_lit, List.size_toArray, List.length_cons, List.length_nil]; omega) (ok_lv ?_)))
  refine ok_bd (R := fun r => r = unl (([Ln.per l.Period] ++ l.Inputs.map Ln.inp).map Ln.text) ∧ 0 < r.size ∧ r.size ≤ 320) ?_ ?_
  · refine ok_lp (fun s => (0 ≤ s.2 ∧ s.2 ≤ l.Inputs.length) ∧ s.1 = unl (([Ln.per l.Period] ++ (l.Inputs.take s.2.toNat).map Ln.inp).map Ln.text) ∧ 0 < s.1.size ∧ (s.1.size : Int) ≤ 20 + 60 * s.2) (fun s => ((l.Inputs.length : Int) - s.2).toNat) ⟨⟨by simp, by simp only; omega⟩, ?_, (by simp only [ByteArray.size_append, sz_lit, List.size_toArray, List.length_cons, List.length_nil]; omega), (by simp only [ByteArray.size_append, sz_lit, List.size_toArray, List.length_cons, List.length_nil]; omega)⟩ (by simp only; omega) ?_
    · show _ = (⟨#[112, 101, 114, 105, 111, 100]⟩ ++ ((⟨#[32]⟩ : ByteArray) ++ itoa l.Period)) ++ (⟨#[10]⟩ ++ (⟨#[]⟩ : ByteArray))
      rw [lit_per, empty_app, app_empty]
      simp only [ByteArray.append_assoc]
    rintro ⟨bb, y⟩ ⟨⟨y0, y1⟩, y2, y3, y4⟩
    simp only at y0 y1 y2 y3 y4
    unfold P_clocks_write_L5
    dsimp only
    refine ok_ite (fun hlt => ?_) fun hge => ok_some ⟨by rw [y2, show y.toNat = l.Inputs.length by omega, List.take_length], by omega, by omega⟩
    have hs := (word_inp h hi hf ho hl hp ⟨y0, hlt⟩).le
    obtain ⟨-, hw⟩ := hl.inp y ⟨y0, hlt⟩
    have w1 := hw.lo
    have w2 := hw.le
    have w3 := hw.hi
    refine ok_ck ⟨y0, hlt⟩ (ok_lv (ok_ck (by simp only [ByteArray.size_append, sz_lit, List.size_toArray, List.length_cons, List.length_nil]; omega) (ok_ck (by simp only [ByteArray.size_append, sz_lit, List.size_toArray, List.length_cons, List.length_nil]; omega) (ok_bd (write1_ok (by omega) (by omega)) ?_))))
    rintro _ ⟨rfl, hs1⟩
    refine ok_ck (by simp only [ByteArray.size_append, sz_lit, List.size_toArray, List.length_cons, List.length_nil]; omega) (ok_ck (by simp only [ByteArray.size_append, sz_lit, List.size_toArray, List.length_cons, List.length_nil]; omega) (ok_bd (write1_ok (by omega) (by omega)) ?_))
    rintro _ ⟨rfl, hs2⟩
    refine ok_ck (by simp only [ByteArray.size_append, sz_lit, List.size_toArray, List.length_cons, List.length_nil]; omega) (ok_ck (by simp only [ByteArray.size_append, sz_lit, List.size_toArray, List.length_cons, List.length_nil]; omega) (ok_ck (by simp only [ByteArray.size_append, sz_lit, List.size_toArray, List.length_cons, List.length_nil]; omega) (ok_lv (ok_ar (by omega) (ok_some ⟨⟨⟨by simp only; omega, by simp only; omega⟩, ?_, (by simp only [ByteArray.size_append, sz_lit, List.size_toArray, List.length_cons, List.length_nil]; omega), (by simp only [ByteArray.size_append, sz_lit, List.size_toArray, List.length_cons, List.length_nil]; omega)⟩, by simp only; omega⟩)))))
    simp only
    rw [unl_step _ _ ⟨y0, hlt⟩, ← y2, lit_inp]
    simp only [Ln.text, ByteArray.append_assoc]
  rintro b1 ⟨hb0, hb1, hb2⟩
  refine ok_bd (R := fun r => r = unl ((([Ln.per l.Period] ++ l.Inputs.map Ln.inp) ++ l.Outputs.map Ln.out).map Ln.text) ∧ 0 < r.size ∧ r.size ≤ 620) ?_ ?_
  · refine ok_lp (fun s => (0 ≤ s.2 ∧ s.2 ≤ l.Outputs.length) ∧ s.1 = unl ((([Ln.per l.Period] ++ l.Inputs.map Ln.inp) ++ (l.Outputs.take s.2.toNat).map Ln.out).map Ln.text) ∧ 0 < s.1.size ∧ (s.1.size : Int) ≤ 320 + 60 * s.2) (fun s => ((l.Outputs.length : Int) - s.2).toNat) ⟨⟨by simp, by simp only; omega⟩, by simp only [Int.toNat_zero, List.take_zero, List.map_nil, List.append_nil]; exact hb0, hb1, by simp only; omega⟩ (by simp only; omega) ?_
    rintro ⟨bb, y⟩ ⟨⟨y0, y1⟩, y2, y3, y4⟩
    simp only at y0 y1 y2 y3 y4
    unfold P_clocks_write_L10
    dsimp only
    refine ok_ite (fun hlt => ?_) fun hge => ok_some ⟨by rw [y2, show y.toNat = l.Outputs.length by omega, List.take_length], by omega, by omega⟩
    have hs := (word_out h hi hf ho hl hp ⟨y0, hlt⟩).le
    obtain ⟨-, hw⟩ := hl.out y ⟨y0, hlt⟩
    refine ok_ck ⟨y0, hlt⟩ (ok_lv (ok_ck (by simp only [ByteArray.size_append, sz_lit, List.size_toArray, List.length_cons, List.length_nil]; omega) (ok_ck (by simp only [ByteArray.size_append, sz_lit, List.size_toArray, List.length_cons, List.length_nil]; omega) (ok_bd (write1_ok (by omega) (by omega)) ?_))))
    rintro _ ⟨rfl, hs1⟩
    refine ok_ck (by simp only [ByteArray.size_append, sz_lit, List.size_toArray, List.length_cons, List.length_nil]; omega) (ok_ck (by simp only [ByteArray.size_append, sz_lit, List.size_toArray, List.length_cons, List.length_nil]; omega) (ok_ck (by simp only [ByteArray.size_append, sz_lit, List.size_toArray, List.length_cons, List.length_nil]; omega) (ok_lv (ok_ar (by omega) (ok_some ⟨⟨⟨by simp only; omega, by simp only; omega⟩, ?_, (by simp only [ByteArray.size_append, sz_lit, List.size_toArray, List.length_cons, List.length_nil]; omega), (by simp only [ByteArray.size_append, sz_lit, List.size_toArray, List.length_cons, List.length_nil]; omega)⟩, by simp only; omega⟩)))))
    simp only
    rw [unl_step _ _ ⟨y0, hlt⟩, ← y2, lit_out]
    simp only [Ln.text, ByteArray.append_assoc]
  rintro b2 ⟨hb0', hb3, hb4⟩
  refine ok_bd (R := fun r => r = unl ((lines l).map Ln.text) ∧ 0 < r.size ∧ r.size ≤ 800) ?_ ?_
  · refine ok_lp (fun s => (0 ≤ s.2 ∧ s.2 ≤ l.Paths.length) ∧ s.1 = unl (((([Ln.per l.Period] ++ l.Inputs.map Ln.inp) ++ l.Outputs.map Ln.out) ++ (l.Paths.take s.2.toNat).map Ln.pth).map Ln.text) ∧ 0 < s.1.size ∧ (s.1.size : Int) ≤ 620 + 60 * s.2) (fun s => ((l.Paths.length : Int) - s.2).toNat) ⟨⟨by simp, by simp only; omega⟩, by simp only [Int.toNat_zero, List.take_zero, List.map_nil, List.append_nil]; exact hb0', hb3, by simp only; omega⟩ (by simp only; omega) ?_
    rintro ⟨bb, y⟩ ⟨⟨y0, y1⟩, y2, y3, y4⟩
    simp only at y0 y1 y2 y3 y4
    unfold P_clocks_write_L16
    dsimp only
    refine ok_ite (fun hlt => ?_) fun hge => ok_some ⟨by rw [y2, show y.toNat = l.Paths.length by omega, List.take_length]; rfl, by omega, by omega⟩
    obtain ⟨n1, n2, n3⟩ := hl.pth y ⟨y0, hlt⟩
    have s1 : (gt l.Paths y).From.size ≤ 6 := (name_in h hi hf ho hl hp n1).elim (fun e => by rw [e]; exact Nat.zero_le _) fun w => w.le
    have s2 : (gt l.Paths y).To.size ≤ 6 := (name_out h hi hf ho hl hp n2).elim (fun e => by rw [e]; exact Nat.zero_le _) fun w => w.le
    refine ok_ck ⟨y0, hlt⟩ (ok_lv (ok_bd (R := fun r => r = bb ++ ((Ln.pth (gt l.Paths y)).text ++ ⟨#[10]⟩) ∧ 0 < r.size ∧ r.size ≤ bb.size + 60) ?_ ?_))
    · refine ok_ite (fun hc => ok_bd (write2_ok s1) ?_) fun hc => ok_bd (write1_ok (by omega) (by omega)) ?_
      · rintro _ ⟨rfl, ht1⟩
        refine ok_ck (by simp only [ByteArray.size_append, sz_lit, List.size_toArray, List.length_cons, List.length_nil]; omega) (ok_ck (by simp only [ByteArray.size_append, sz_lit, List.size_toArray, List.length_cons, List.length_nil]; omega) (ok_bd (write2_ok s2) ?_))
        rintro _ ⟨rfl, ht2⟩
        refine ok_ck (by simp only [ByteArray.size_append, sz_lit, List.size_toArray, List.length_cons, List.length_nil]; omega) (ok_ck (by simp only [ByteArray.size_append, sz_lit, List.size_toArray, List.length_cons, List.length_nil]; omega) (ok_ck (by simp only [ByteArray.size_append, sz_lit, List.size_toArray, List.length_cons, List.length_nil]; omega) (ok_lv (ok_some ⟨?_, (by simp only [ByteArray.size_append, sz_lit, List.size_toArray, List.length_cons, List.length_nil]; omega), (by simp only [ByteArray.size_append, sz_lit, List.size_toArray, List.length_cons, List.length_nil]; omega)⟩))))
        rw [lit_false]
        simp only [Ln.text, if_pos hc, ByteArray.append_assoc]
      · rintro _ ⟨rfl, ht0⟩
        refine ok_ck (by simp only [ByteArray.size_append, sz_lit, List.size_toArray, List.length_cons, List.length_nil]; omega) (ok_ck (by simp only [ByteArray.size_append, sz_lit, List.size_toArray, List.length_cons, List.length_nil]; omega) (ok_bd (write2_ok s1) ?_))
        rintro _ ⟨rfl, ht1⟩
        refine ok_ck (by simp only [ByteArray.size_append, sz_lit, List.size_toArray, List.length_cons, List.length_nil]; omega) (ok_ck (by simp only [ByteArray.size_append, sz_lit, List.size_toArray, List.length_cons, List.length_nil]; omega) (ok_bd (write2_ok s2) ?_))
        rintro _ ⟨rfl, ht2⟩
        refine ok_ck (by simp only [ByteArray.size_append, sz_lit, List.size_toArray, List.length_cons, List.length_nil]; omega) (ok_ck (by simp only [ByteArray.size_append, sz_lit, List.size_toArray, List.length_cons, List.length_nil]; omega) (ok_ck (by simp only [ByteArray.size_append, sz_lit, List.size_toArray, List.length_cons, List.length_nil]; omega) (ok_lv (ok_some ⟨?_, (by simp only [ByteArray.size_append, sz_lit, List.size_toArray, List.length_cons, List.length_nil]; omega), (by simp only [ByteArray.size_append, sz_lit, List.size_toArray, List.length_cons, List.length_nil]; omega)⟩))))
        rw [lit_multi]
        simp only [Ln.text, if_neg hc, ByteArray.append_assoc]
    rintro b3 ⟨hb7, hb5, hb6⟩
    refine ok_ar (by omega) (ok_some ⟨⟨⟨by simp only; omega, by simp only; omega⟩, ?_, hb5, by simp only; omega⟩, by simp only; omega⟩)
    simp only
    rw [unl_step _ _ ⟨y0, hlt⟩, ← y2, hb7]
  rintro b3 ⟨hb7, hb5, hb6⟩
  exact ok_ck hb5 (ok_some ⟨hb7, hb5, by omega⟩)
end
end Go.Proofs.YtkenpbnpemjbhaaDoor.X
