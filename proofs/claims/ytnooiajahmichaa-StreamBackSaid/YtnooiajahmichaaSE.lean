/- array.order finds an order. Plain. -/
import Derived.Test.YtnooiajahmichaaSD
namespace Go.Proofs.Ytnooiajahmichaa.X
open Go Go.RowKit
set_option linter.unusedVariables false
section
variable {c : T_array_Config}
/-- One input of a table, as a wire. -/
theorem src_ok (h : ConfOk c) {tile x : Int} (ht : 0 ≤ tile ∧ tile < c.Tiles.length) (hx : InOk c.Tracks x) {out : List Int} {j : Nat} (hj : j ≤ 3) (ho : out.length ≤ j) (hd : ∀ w ∈ out, (w < 0 ∧ -1000 ≤ w) ∨ (0 ≤ w ∧ w < wiresN c ∧ rk c w = 2 * rkT c.Cols tile - 1))
    {β : Type} {Q : β → Prop} {f : List Int → Option β} (hf : ∀ l : List Int, l.length ≤ j + 1 → (∀ w ∈ l, (w < 0 ∧ -1000 ≤ w) ∨ (0 ≤ w ∧ w < wiresN c ∧ rk c w = 2 * rkT c.Cols tile - 1)) → Ok (f l) Q) :
    Ok (ck ((decide (0 < x)) = true → I64 ((4 : Int) * c.Tracks)) <|
      lv ((4 : Int) * c.Tracks) fun x23 =>
      lv ((decide (0 < x)) && (decide (x ≤ x23))) fun x25 =>
      bd (
        if x25 = true then
          ar (x - 1) fun x30 =>
          ck (c.Tracks ≠ 0) <|
          ar (Int.tdiv x30 c.Tracks) fun x33 =>
          ar (x - 1) fun x35 =>
          ck (c.Tracks ≠ 0) <|
          lv (Int.tmod x35 c.Tracks) fun x38 =>
          bd (P_array_Config_into c tile x33 x38) fun r6 =>
          lv (out ++ [r6]) fun z6 =>
          ck (apOk 8 z6.length) <|
          some z6
        else
          some out) f) Q := by
  have h3 := h.tracks
  refine ok_ck (fun _ => by omega) (ok_lv (ok_lv (ok_bd_ite (fun hq => ?_) fun hq => ok_bd_some (hf out (by omega) hd))))
  simp only [Bool.and_eq_true, decide_eq_true_eq] at hq
  have e1 : Int.tdiv (x - 1) c.Tracks = (x - 1) / c.Tracks := tdivp (by omega)
  have e2 : Int.tmod (x - 1) c.Tracks = (x - 1) % c.Tracks := tmodp (by omega)
  have hside : ((x - 1) / c.Tracks = 0 ∨ (x - 1) / c.Tracks = 3) ∧ 0 ≤ (x - 1) % c.Tracks ∧ (x - 1) % c.Tracks < c.Tracks ∧ (x - 1) / c.Tracks ≤ 100 ∧ 0 ≤ (x - 1) / c.Tracks := by
    unfold InOk at hx
    rcases (by omega : c.Tracks = 2 ∨ c.Tracks = 3) with e | e <;> rw [e] at hx hq ⊢ <;> omega
  refine ok_bd_ar (by omega) (ok_bd_ck (by omega) ?_)
  rw [e1]
  refine ok_bd_ar (by omega) (ok_bd_ar (by omega) (ok_bd_ck (by omega) (ok_bd_lv ?_)))
  rw [e2]
  refine ok_bd_bd (ok_bd (into_ok h ht hside.1 ⟨hside.2.1, hside.2.2.1⟩) ?_)
  intro r hr
  refine ok_bd_lv (ok_bd_ck ?_ (ok_bd_some (hf _ ?_ ?_)))
  · simp only [List.length_append, List.length_singleton]; omega
  · simp only [List.length_append, List.length_singleton]; omega
  · intro w hw
    rcases List.mem_append.1 hw with hw | hw
    · exact hd w hw
    · simp only [List.mem_singleton] at hw; subst hw; exact hr
theorem sources_ok (h : ConfOk c) {tile : Int} (ht : 0 ≤ tile ∧ tile < c.Tiles.length) : Ok (P_array_Config_sources c tile) (fun l => l.length ≤ 4 ∧ ∀ w ∈ l, (w < 0 ∧ -1000 ≤ w) ∨ (0 ≤ w ∧ w < wiresN c ∧ rk c w = 2 * rkT c.Cols tile - 1)) := by
  have hT := h.tile tile ht
  unfold P_array_Config_sources
  refine ok_ck ht (ok_lv ?_)
  refine src_ok h ht hT.i0 (out := []) (j := 0) (by omega) (by simp) (fun w hw => by simp at hw) fun l0 a0 b0 => ?_
  refine src_ok h ht hT.i1 (by omega) a0 b0 fun l1 a1 b1 => ?_
  refine src_ok h ht hT.i2 (by omega) a1 b1 fun l2 a2 b2 => ?_
  refine src_ok h ht hT.i3 (by omega) a2 b2 fun l3 a3 b3 => ?_
  exact ok_some ⟨a3, b3⟩
/-- States of the search. -/
structure Stt (c : T_array_Config) (st : List Int) : Prop where
  len : (st.length : Int) = wiresN c + c.Tiles.length
  val : ∀ j, inb j st.length → gt st j = 0 ∨ gt st j = 1 ∨ gt st j = 2
theorem Stt.set {st : List Int} (h : Stt c st) {k v : Int} (hk : inb k st.length) (hv : v = 0 ∨ v = 1 ∨ v = 2) : Stt c (stt st k v) := by
  refine ⟨by rw [stt_length]; exact h.len, fun j hj => ?_⟩
  rw [stt_length] at hj
  rw [gt_stt _ _ hk hj.1]
  split
  · exact hv
  · exact h.val j hj
theorem pow5 {d : Nat} (h : d ≤ 20) : (5 : Int) ^ d ≤ 95367431640625 ∧ 1 ≤ (5 : Int) ^ d := by
  have h1 : (5 : Nat) ^ d ≤ 5 ^ 20 := Nat.pow_le_pow_right (by omega) h
  have h2 : 0 < (5 : Nat) ^ d := Nat.pow_pos (by omega)
  have h3 : ((5 : Nat) ^ d : Nat) = ((5 : Int) ^ d) := by simp
  have h4 : (5 : Nat) ^ 20 = 95367431640625 := by decide
  omega
theorem rk_nn (h : ConfOk c) {k : Int} (hk : 0 ≤ k ∧ k < wiresN c + c.Tiles.length) : 0 ≤ rk c k ∧ rk c k ≤ 9 := by
  have h3 := h.tracks
  have hL := h.tilesL
  have hM := h.Mb
  unfold rk
  split
  · rename_i hlt
    have ht : 0 ≤ k / c.Tracks / 4 ∧ k / c.Tracks / 4 < c.Tiles.length := by
      unfold wiresN at hlt
      rcases (by omega : c.Tracks = 2 ∨ c.Tracks = 3) with e | e <;> rw [e] at hlt ⊢ <;> omega
    have a := rkT_nn h.cols ht.1
    have b := rkT_le h.rows h.cols (tile := k / c.Tracks / 4) ⟨ht.1, by omega⟩
    omega
  · have a := rkT_nn h.cols (tile := k - wiresN c) (by omega)
    have b := rkT_le h.rows h.cols (tile := k - wiresN c) ⟨by omega, by omega⟩
    omega
theorem ConfOk.wb (h : ConfOk c) : 8 ≤ wiresN c ∧ wiresN c ≤ 108 ∧ 1 ≤ c.Tiles.length ∧ (c.Tiles.length : Int) ≤ 9 := by
  have h3 := h.tracks
  have hL := h.tilesL
  have hM := h.Mb
  unfold wiresN
  rcases (by omega : c.Tracks = 2 ∨ c.Tracks = 3) with e | e <;> rw [e] <;> omega
/-- A wire's or a table's own wants. -/
theorem deps_ok (h : ConfOk c) {k : Int} (hk : 0 ≤ k ∧ k < wiresN c + c.Tiles.length) {β : Type} {Q : β → Prop} {f : List Int → Option β} (hf : ∀ l, Deps c k l → Ok (f l) Q) :
    Ok (bd (
      if wiresN c ≤ k then
        ar (k - wiresN c) fun x34 =>
        bd (P_array_Config_sources c x34) fun r6_4 =>
        some r6_4
      else
        ck (c.Tracks ≠ 0) <|
        ar (Int.tdiv k c.Tracks) fun x39 =>
        ck ((4 : Int) ≠ 0) <|
        ar (Int.tdiv x39 4) fun x40 =>
        ck (c.Tracks ≠ 0) <|
        ar (Int.tdiv k c.Tracks) fun x44 =>
        ck ((4 : Int) ≠ 0) <|
        lv (Int.tmod x44 4) fun x45 =>
        ck (c.Tracks ≠ 0) <|
        lv (Int.tmod k c.Tracks) fun x49 =>
        ck (inb x40 c.Tiles.length) <|
        ck (inb x45 4) <|
        lv (gt c.Tiles x40) fun y8_7 =>
        lv (sel4 x45 y8_7.Out.fe0 y8_7.Out.fe1 y8_7.Out.fe2 y8_7.Out.fe3) fun z8_7 =>
        ck (inb x49 z8_7.length) <|
        lv (gt z8_7 x49) fun x60 =>
        bd (
          if x60 = 1 then
            ar (wiresN c + x40) fun x67 =>
            lv ([x67]) fun z10_5 =>
            ck (apOk 8 z10_5.length) <|
            some z10_5
          else
            bd (
              if 3 ≤ x60 then
                ar (x60 - 3) fun x77 =>
                bd (P_array_Config_into c x40 x77 x49) fun r12_6 =>
                lv ([r12_6]) fun z12_8 =>
                ck (apOk 8 z12_8.length) <|
                some z12_8
              else
                some []) fun l8_c70 =>
            some l8_c70) fun l8_c61 =>
        some l8_c61) f) Q := by
  have h3 := h.tracks
  have hb := h.wb
  refine ok_bd_ite (fun hw => ?_) fun hw => ?_
  · refine ok_bd_ar (by omega) (ok_bd_bd (ok_bd (sources_ok h (tile := k - wiresN c) ⟨by omega, by omega⟩) ?_))
    rintro l ⟨l0, l1⟩
    refine ok_bd_some (hf l ⟨l0, fun w hwl => ?_⟩)
    rcases l1 w hwl with h1 | ⟨h1, h2, h4⟩
    · exact .inl h1
    · refine .inr ⟨h1, by omega, ?_⟩
      rw [h4]
      show _ < rk c k
      have : rk c k = 2 * rkT c.Cols (k - wiresN c) := by unfold rk; rw [if_neg (by omega)]
      omega
  have ht : 0 ≤ k / c.Tracks / 4 ∧ k / c.Tracks / 4 < c.Tiles.length ∧ 0 ≤ k / c.Tracks ∧ k / c.Tracks ≤ 1000 ∧ 0 ≤ k % c.Tracks ∧ k % c.Tracks < c.Tracks := by
    have hw' : k < (c.Tiles.length : Int) * 4 * c.Tracks := by unfold wiresN at hw; omega
    rcases (by omega : c.Tracks = 2 ∨ c.Tracks = 3) with e | e <;> rw [e] at hw' ⊢ <;> omega
  have e1 : Int.tdiv k c.Tracks = k / c.Tracks := tdivp hk.1
  have e2 : Int.tdiv (k / c.Tracks) 4 = k / c.Tracks / 4 := tdivp ht.2.2.1
  have e3 : Int.tmod (k / c.Tracks) 4 = k / c.Tracks % 4 := tmodp ht.2.2.1
  have e4 : Int.tmod k c.Tracks = k % c.Tracks := tmodp hk.1
  rw [e1, e4]
  refine ok_bd_ck (by omega) (ok_bd_ar (by omega) (ok_bd_ck (by omega) ?_))
  rw [e2]
  refine ok_bd_ar (by omega) (ok_bd_ck (by omega) (ok_bd_ar (by omega) (ok_bd_ck (by omega) (ok_bd_lv ?_))))
  rw [e3]
  have hrk : rk c k = 2 * rkT c.Cols (k / c.Tracks / 4) + 1 := by unfold rk; rw [if_pos (by omega)]
  have htile := h.tile (k / c.Tracks / 4) ⟨ht.1, ht.2.1⟩
  obtain ⟨m0, m1, m2, m3, m4, m5⟩ := ht
  generalize k / c.Tracks / 4 = tile at *
  generalize hside : k / c.Tracks % 4 = side at *
  generalize k % c.Tracks = track at *
  have hs4 : 0 ≤ side ∧ side < 4 := by omega
  refine ok_bd_ck (by omega) (ok_bd_lv (ok_bd_ck ⟨m0, m1⟩ (ok_bd_ck hs4 (ok_bd_lv (ok_bd_lv ?_)))))
  have hsel : inb track (sel4 side (gt c.Tiles tile).Out.fe0 (gt c.Tiles tile).Out.fe1 (gt c.Tiles tile).Out.fe2 (gt c.Tiles tile).Out.fe3).length ∧ OutES (gt (sel4 side (gt c.Tiles tile).Out.fe0 (gt c.Tiles tile).Out.fe1 (gt c.Tiles tile).Out.fe2 (gt c.Tiles tile).Out.fe3) track) := by
    refine sel4_cases (p := fun l => inb track l.length ∧ OutES (gt l track)) hs4 (fun _ => ?_) (fun _ => ?_) (fun _ => ?_) fun _ => ?_
    · have hl := htile.l0
      refine ⟨⟨m4, by omega⟩, ?_⟩
      have := htile.o0 track ⟨m4, by omega⟩
      unfold OutNW at this; unfold OutES; omega
    · have hl := htile.l1
      exact ⟨⟨m4, by omega⟩, htile.o1 track ⟨m4, by omega⟩⟩
    · have hl := htile.l2
      exact ⟨⟨m4, by omega⟩, htile.o2 track ⟨m4, by omega⟩⟩
    · have hl := htile.l3
      refine ⟨⟨m4, by omega⟩, ?_⟩
      have := htile.o3 track ⟨m4, by omega⟩
      unfold OutNW at this; unfold OutES; omega
  generalize sel4 side (gt c.Tiles tile).Out.fe0 (gt c.Tiles tile).Out.fe1 (gt c.Tiles tile).Out.fe2 (gt c.Tiles tile).Out.fe3 = row at *
  refine ok_bd_ck hsel.1 (ok_bd_lv ?_)
  have hx := hsel.2
  generalize gt row track = x at *
  unfold OutES at hx
  have hnn := rkT_nn h.cols m0
  refine ok_bd_bd (ok_bd_ite (fun h1 => ?_) fun h1 => ?_)
  · refine ok_bd_ar (by omega) (ok_bd_lv (ok_bd_ck (by simp) (ok_bd_some (ok_bd_some (hf _ ⟨by simp, fun w hwl => ?_⟩)))))
    simp only [List.mem_singleton] at hwl
    subst hwl
    refine .inr ⟨by omega, by omega, ?_⟩
    have : rk c (wiresN c + tile) = 2 * rkT c.Cols tile := by unfold rk; rw [if_neg (by omega), show wiresN c + tile - wiresN c = tile by omega]
    omega
  refine ok_bd_bd (ok_bd_ite (fun h2 => ?_) fun h2 => ok_bd_some (ok_bd_some (ok_bd_some (hf _ (Deps.nil k)))))
  refine ok_bd_ar (by omega) (ok_bd_bd (ok_bd (into_ok h ⟨m0, m1⟩ (by omega) ⟨m4, m5⟩) ?_))
  intro w hw2
  refine ok_bd_lv (ok_bd_ck (by simp) (ok_bd_some (ok_bd_some (ok_bd_some (hf _ ⟨by simp, fun w' hwl => ?_⟩)))))
  simp only [List.mem_singleton] at hwl
  subst hwl
  rcases hw2 with h4 | ⟨h4, h5, h6⟩
  · exact .inl h4
  · exact .inr ⟨h4, by omega, by omega⟩
/-- What an order may hold. -/
def OutP (c : T_array_Config) (out : List Int) : Prop := ∀ x ∈ out, -(c.Tiles.length : Int) ≤ x ∧ x < wiresN c
theorem OutP.snoc {out : List Int} {x : Int} (h : OutP c out) (hx : -(c.Tiles.length : Int) ≤ x ∧ x < wiresN c) : OutP c (out ++ [x]) := fun y hy => by
  rcases List.mem_append.1 hy with hy | hy
  · exact h y hy
  · rw [List.mem_singleton.1 hy]; exact hx
theorem visit_ok (h : ConfOk c) : ∀ (d n : Nat) (k : Int) (st out : List Int), d < n → d ≤ 9 → (0 ≤ k ∧ k < wiresN c + c.Tiles.length) → rk c k ≤ d → Stt c st → (∀ j, inb j st.length → gt st j = 1 → rk c k < rk c j) → (out.length : Int) + 5 ^ (d + 1) ≤ 1000000000000 → OutP c out →
    Ok (rcf P_array_order_1_3_B n (k, st, wiresN c, c, out)) (fun r => r.1 = true ∧ Stt c r.2.1 ∧ (∀ j, inb j st.length → (gt r.2.1 j = 1 ↔ gt st j = 1)) ∧ (r.2.2.length : Int) ≤ out.length + 5 ^ (d + 1) ∧ OutP c r.2.2) := by
  intro d
  induction d using Nat.strongRecOn with
  | ind d ih =>
  intro n k st out hn hd hk hrk hst hones hout hop
  have hb := h.wb
  have hl := hst.len
  have hki : inb k st.length := ⟨hk.1, by omega⟩
  obtain ⟨m, rfl⟩ : ∃ m, n = m + 1 := ⟨n - 1, by omega⟩
  have hp := pow5 (d := d) (by omega)
  have hp1 : (5 : Int) ^ (d + 1) = 5 * 5 ^ d := by rw [Int.pow_succ, Int.mul_comm]
  rw [hp1] at hout ⊢
  show Ok (P_array_order_1_3_B (rcf P_array_order_1_3_B m) (k, st, wiresN c, c, out)) _
  unfold P_array_order_1_3_B
  dsimp only
  have hval := hst.val k hki
  refine ok_ck hki (ok_lv (ok_ite (fun hpos => ?_) fun hz => ?_))
  · have h1 : gt st k ≠ 1 := fun e => by have := hones k hki e; omega
    have h2 : gt st k = 2 := by omega
    exact ok_ck hki (ok_lv (ok_some ⟨by simp only; rw [h2]; rfl, hst, fun j _ => Iff.rfl, by simp only; omega, hop⟩))
  have h0 : gt st k = 0 := by omega
  refine ok_ck hki (ok_lv' fun z3 ez3 => deps_ok h hk fun l hl4 => ?_)
  have hz3 : Stt c z3 := by rw [ez3]; exact hst.set hki (.inr (.inl rfl))
  have hz3l : z3.length = st.length := by rw [ez3, stt_length]
  have hone3 : ∀ j, inb j st.length → (gt z3 j = 1 ↔ gt st j = 1 ∨ j = k) := by
    intro j hj
    rw [ez3, gt_stt _ _ hki hj.1]
    by_cases e : j = k
    · rw [if_pos e]; exact ⟨fun _ => .inr e, fun _ => rfl⟩
    · rw [if_neg e]; exact ⟨.inl, fun hh => hh.resolve_right e⟩
  have hlen4 := hl4.1
  refine ok_bs1 (R := fun r => Stt c r.1 ∧ r.1.length = st.length ∧ (∀ j, inb j st.length → (gt r.1 j = 1 ↔ gt st j = 1 ∨ j = k)) ∧ (r.2.length : Int) ≤ out.length + 4 * 5 ^ d ∧ OutP c r.2) ?_ ?_
  · refine ok_lp (fun s => 0 ≤ s.1 ∧ s.1 ≤ l.length ∧ Stt c s.2.1 ∧ s.2.1.length = st.length ∧ (∀ j, inb j st.length → (gt s.2.1 j = 1 ↔ gt st j = 1 ∨ j = k)) ∧ (s.2.2.length : Int) ≤ out.length + s.1 * 5 ^ d ∧ OutP c s.2.2) (fun s => ((l.length : Int) - s.1).toNat)
      ⟨by simp, by simp, hz3, hz3l, hone3, by simp, hop⟩ (by simp only; omega) ?_
    rintro ⟨y, st1, out1⟩ ⟨y0, y1, s1, s2, s3, s4, s5⟩
    simp only at y0 y1 s1 s2 s3 s4 s5
    unfold P_array_order_1_3_L14
    dsimp only
    generalize hpw : (5 : Int) ^ d = pw at *
    have hy : y = 0 ∨ y = 1 ∨ y = 2 ∨ y = 3 ∨ y = 4 := by omega
    refine ok_ite (fun hlt => ?_) fun hge => ok_some ⟨_, rfl, s1, s2, s3, by simp only; rcases hy with e | e | e | e | e <;> subst e <;> omega, s5⟩
    refine ok_ck ⟨y0, hlt⟩ (ok_lv' fun w ew => ?_)
    have hw := hl4.2 w (by rw [ew]; exact gt_mem ⟨y0, hlt⟩)
    refine ok_bd (R := fun o => o.1 = false ∧ Stt c o.2.1 ∧ o.2.1.length = st.length ∧ (∀ j, inb j st.length → (gt o.2.1 j = 1 ↔ gt st j = 1 ∨ j = k)) ∧ (o.2.2.length : Int) ≤ out1.length + pw ∧ OutP c o.2.2) (ok_ite (fun hw0 => ?_) fun hw0 => ok_some ⟨rfl, s1, s2, s3, by simp only; omega, s5⟩) ?_
    · simp only [decide_eq_true_eq] at hw0
      rcases hw with hw | ⟨_, hw2, hw3⟩
      · omega
      have hrkn := rk_nn h (k := w) ⟨hw0, hw2⟩
      obtain ⟨d1, rfl⟩ : ∃ d1, d = d1 + 1 := ⟨d - 1, by omega⟩
      have hb5 : (out1.length : Int) + 5 ^ (d1 + 1) ≤ 1000000000000 := by
        rw [hpw]; rcases hy with e | e | e | e | e <;> subst e <;> omega
      refine ok_bd (ih d1 (by omega) m w st1 out1 (by omega) (by omega) ⟨hw0, hw2⟩ (by omega) s1 (fun j hj e => ?_) hb5 s5) ?_
      · rw [s2] at hj
        rcases (s3 j hj).1 e with e1 | e1
        · have := hones j hj e1; omega
        · subst e1; exact hw3
      · rintro ⟨b, st2, out2⟩ ⟨e1, e2, e3, e4, e5⟩
        simp only at e1 e2 e3 e4 e5
        refine ok_some ⟨by simp only; rw [e1]; rfl, e2, ?_, fun j hj => ?_, ?_, e5⟩
        · have := e2.len; have := s1.len; simp only; omega
        · simp only; rw [e3 j (by rw [s2]; exact hj)]; exact s3 j hj
        · simp only; rw [hpw] at e4; exact e4
    · rintro ⟨q, st2, out2⟩ ⟨e1, e2, e3, e4, e5, e6⟩
      simp only at e1 e2 e3 e4 e5 e6
      subst e1
      refine ok_f (by simp) (ok_ar (by omega) (ok_some ⟨⟨by simp only; omega, by simp only; omega, e2, e3, e4, ?_, e6⟩, by simp only; omega⟩))
      simp only
      rcases hy with e | e | e | e | e <;> subst e <;> omega
  rintro ⟨st1, out1⟩ ⟨s1, s2, s3, s4, s5⟩
  simp only at s1 s2 s3 s4 s5
  have hki1 : inb k st1.length := by rw [s2]; exact hki
  refine ok_ck hki1 (ok_lv' fun z19 ez => ?_)
  have hfin : Stt c z19 ∧ ∀ j, inb j st.length → (gt z19 j = 1 ↔ gt st j = 1) := by
    refine ⟨by rw [ez]; exact s1.set hki1 (.inr (.inr rfl)), fun j hj => ?_⟩
    rw [ez, gt_stt _ _ hki1 hj.1]
    by_cases e : j = k
    · rw [if_pos e, e, h0]; omega
    · rw [if_neg e, s3 j hj]; exact ⟨fun hh => hh.resolve_right e, .inl⟩
  refine ok_bd_ite (fun hw => ok_bd_ar (by omega) (ok_bd_ar (by omega) (ok_bd_lv (ok_bd_ck ?_ (ok_bd_some (ok_some ⟨rfl, hfin.1, hfin.2, ?_, ?_⟩)))))) fun hw => ok_bd_lv (ok_bd_ck ?_ (ok_bd_some (ok_some ⟨rfl, hfin.1, hfin.2, ?_, ?_⟩)))
  all_goals first | exact s5.snoc ⟨by omega, by omega⟩ | (simp only [List.length_append, List.length_singleton]; omega)
end
end Go.Proofs.Ytnooiajahmichaa.X
