/- array.Run of a stream's configuration ends well. Plain. -/
import Derived.Test.YtnooiajahmichaaSF
namespace Go.Proofs.Ytnooiajahmichaa.X
open Go Go.RowKit
set_option linter.unusedVariables false
set_option linter.unusedSimpArgs false
set_option linter.unusedSectionVars false
section
variable {c : T_array_Config}
/-- A machine of a configuration. -/
structure MOk (c : T_array_Config) (m : T_array_machine) : Prop where
  cf : m.fc = c
  ord : OutP c m.forder
  ordL : (m.forder.length : Int) ≤ 2000000000
  wires : (m.fwires.length : Int) = wiresN c
  table : m.ftable.length = c.Tiles.length
  flop : m.fflop.length = c.Tiles.length
theorem value_ok (h : ConfOk c) {m : T_array_machine} (hm : MOk c m) {in_ : List Bool} (hin : in_.length ≤ 1000) {tile side track : Int} (ht : 0 ≤ tile ∧ tile < c.Tiles.length) (hs : side = 0 ∨ side = 3) (hk : 0 ≤ track ∧ track < c.Tracks) :
    Ok (P_array_machine_value m in_ tile side track) (fun _ => True) := by
  have hw := hm.wires
  unfold P_array_machine_value
  rw [hm.cf]
  refine ok_bd (into_ok h ht hs hk) fun w hw2 => ok_ite (fun h0 => ok_ck ⟨h0, by omega⟩ (ok_lv (ok_some trivial))) fun h0 => ?_
  exact ok_ar (by omega) (ok_ck (fun _ => by omega) (ok_lv (ok_ck (fun e => by simp only [decide_eq_true_eq] at e; exact ⟨by omega, by omega⟩) (ok_lv (ok_lv (ok_some trivial))))))
theorem or0 : ∀ a : Int, 0 ≤ a ∧ a < 1 → 0 ≤ bOr .i64 a (shl .i64 1 0) ∧ bOr .i64 a (shl .i64 1 0) < 2 * 1 := fun a ha => by
  rcases (by omega : a = 0) with rfl
  decide +kernel
theorem or1 : ∀ a : Int, 0 ≤ a ∧ a < 2 → 0 ≤ bOr .i64 a (shl .i64 1 1) ∧ bOr .i64 a (shl .i64 1 1) < 2 * 2 := fun a ha => by
  rcases (by omega : a = 0 ∨ a = 1) with rfl | rfl <;> decide +kernel
theorem or2 : ∀ a : Int, 0 ≤ a ∧ a < 4 → 0 ≤ bOr .i64 a (shl .i64 1 2) ∧ bOr .i64 a (shl .i64 1 2) < 2 * 4 := fun a ha => by
  rcases (by omega : a = 0 ∨ a = 1 ∨ a = 2 ∨ a = 3) with rfl | rfl | rfl | rfl <;> decide +kernel
theorem or3 : ∀ a : Int, 0 ≤ a ∧ a < 8 → 0 ≤ bOr .i64 a (shl .i64 1 3) ∧ bOr .i64 a (shl .i64 1 3) < 2 * 8 := fun a ha => by
  rcases (by omega : a = 0 ∨ a = 1 ∨ a = 2 ∨ a = 3 ∨ a = 4 ∨ a = 5 ∨ a = 6 ∨ a = 7) with rfl | rfl | rfl | rfl | rfl | rfl | rfl | rfl <;> decide +kernel
theorem look_step (h : ConfOk c) {m : T_array_machine} (hm : MOk c m) {in_ : List Bool} (hin : in_.length ≤ 1000) {tile x : Int} (ht : 0 ≤ tile ∧ tile < c.Tiles.length) (hx : InOk c.Tracks x) {at_ i B : Int} (hor : ∀ a, 0 ≤ a ∧ a < B → 0 ≤ bOr .i64 a (shl .i64 1 i) ∧ bOr .i64 a (shl .i64 1 i) < 2 * B) (ha : 0 ≤ at_ ∧ at_ < B) (hi : 0 ≤ i)
    {β : Type} {Q : β → Prop} {f : Int → Option β} (hf : ∀ a, 0 ≤ a ∧ a < 2 * B → Ok (f a) Q) :
    Ok (ar ((4 : Int) * m.fc.Tracks) fun x32 =>
      ar ((1 : Int) + x32) fun x33 =>
      bd (
        if x = x33 then
          ck (inb tile m.fflop.length) <|
          lv (gt m.fflop tile) fun x41 =>
          some x41
        else
          bd (
            if 0 < x then
              ar (x - 1) fun x49 =>
              ck (m.fc.Tracks ≠ 0) <|
              ar (Int.tdiv x49 m.fc.Tracks) fun x55 =>
              ar (x - 1) fun x57 =>
              ck (m.fc.Tracks ≠ 0) <|
              lv (Int.tmod x57 m.fc.Tracks) fun x63 =>
              bd (P_array_machine_value m in_ tile x55 x63) fun r =>
              some r
            else
              some false) fun v =>
          some v) fun v =>
      bd (
        if v = true then
          ck (0 ≤ i) <|
          lv (shl .i64 (1 : Int) i) fun x68 =>
          lv (bOr .i64 at_ x68) fun x69 =>
          some x69
        else
          some at_) f) Q := by
  have h3 := h.tracks
  have hfl := hm.flop
  rw [hm.cf]
  refine ok_ar (by omega) (ok_ar (by omega) (ok_bd (R := fun _ => True) ?_ fun v _ => ok_bd (R := fun a => 0 ≤ a ∧ a < 2 * B) ?_ hf))
  · refine ok_ite (fun _ => ok_ck ⟨ht.1, by omega⟩ (ok_lv (ok_some trivial))) fun hne => ok_bd (R := fun _ => True) ?_ fun _ _ => ok_some trivial
    refine ok_ite (fun h0 => ?_) fun _ => ok_some trivial
    have hx2 : (1 + 3 * c.Tracks ≤ x ∧ x < 1 + 4 * c.Tracks) ∨ (1 ≤ x ∧ x < 1 + c.Tracks) := by
      unfold InOk at hx; omega
    have e1 : Int.tdiv (x - 1) c.Tracks = (x - 1) / c.Tracks := Int.tdiv_eq_ediv_of_nonneg (by omega)
    have e2 : Int.tmod (x - 1) c.Tracks = (x - 1) % c.Tracks := Int.tmod_eq_emod_of_nonneg (by omega)
    refine ok_ar (by omega) (ok_ck (by omega) ?_)
    rw [e1]
    have hq : ((x - 1) / c.Tracks = 0 ∨ (x - 1) / c.Tracks = 3) ∧ 0 ≤ (x - 1) % c.Tracks ∧ (x - 1) % c.Tracks < c.Tracks := by
      rcases (by omega : c.Tracks = 2 ∨ c.Tracks = 3) with e | e <;> rw [e] at hx2 ⊢ <;> omega
    refine ok_ar (by omega) (ok_ar (by omega) (ok_ck (by omega) ?_))
    rw [e2]
    exact ok_lv (ok_bd (value_ok h hm hin ht hq.1 hq.2) fun _ _ => ok_some trivial)
  · exact ok_ite (fun _ => ok_ck hi (ok_lv (ok_lv (ok_some (hor _ ha))))) fun _ => ok_some ⟨ha.1, by omega⟩
theorem look_ok (h : ConfOk c) {m : T_array_machine} (hm : MOk c m) {in_ : List Bool} (hin : in_.length ≤ 1000) {tile : Int} (ht : 0 ≤ tile ∧ tile < c.Tiles.length) : Ok (P_array_machine_look m in_ tile) (fun r => r.length = c.Tiles.length) := by
  have hT := h.tile tile ht
  have htb := hm.table
  unfold P_array_machine_look
  rw [show m.fc.Tiles = c.Tiles by rw [hm.cf]]
  refine ok_ck ht (ok_lv ?_)
  refine look_step h hm hin ht hT.i0 (i := 0) (B := 1) or0 (at_ := 0) (by omega) (by omega) fun a1 h1 => ?_
  refine look_step h hm hin ht hT.i1 (i := 1) (B := 2) or1 (by omega) (by omega) fun a2 h2 => ?_
  refine look_step h hm hin ht hT.i2 (i := 2) (B := 4) or2 (by omega) (by omega) fun a3 h3 => ?_
  refine look_step h hm hin ht hT.i3 (i := 3) (B := 8) or3 (by omega) (by omega) fun a4 h4 => ?_
  exact ok_ck h4.1 (ok_lv (ok_lv (ok_ck ⟨ht.1, by omega⟩ (ok_lv (ok_some (by rw [stt_length]; exact htb))))))
theorem step_ok (h : ConfOk c) {m : T_array_machine} (hm : MOk c m) {in_ : List Bool} (hin : in_.length ≤ 1000) {y : Int} {ws tb : List Bool} (hw : (ws.length : Int) = wiresN c) (ht : tb.length = c.Tiles.length) (y0 : 0 ≤ y) :
    Ok (P_array_machine_cycle_L2 m in_ (y, ws, tb)) (fun o => match o with | .inl s => s.1 = y + 1 ∧ y < m.forder.length ∧ (s.2.1.length : Int) = wiresN c ∧ s.2.2.length = c.Tiles.length | .inr s => (s.1.length : Int) = wiresN c ∧ s.2.length = c.Tiles.length) := by
  have h3 := h.tracks
  have hb := h.wb
  have hol := hm.ordL
  have hfl := hm.flop
  unfold P_array_machine_cycle_L2
  dsimp only
  refine ok_ite (fun hlt => ok_bd (R := fun s => (s.1.length : Int) = wiresN c ∧ s.2.length = c.Tiles.length) ?_ ?_) fun hge => ok_some ⟨hw, ht⟩
  · have hko := hm.ord _ (gt_mem ⟨y0, hlt⟩)
    refine ok_ck ⟨y0, hlt⟩ (ok_lv ?_)
    generalize gt m.forder y = k at *
    refine ok_ite (fun hneg => ok_ar (by omega) (ok_bd (look_ok h (m := T_array_machine.mk m.fc m.forder ws tb m.fflop) ⟨hm.cf, hm.ord, hm.ordL, hw, ht, hm.flop⟩ hin ⟨by omega, by omega⟩) fun r hr => ok_some ⟨hw, hr⟩)) fun hpos => ?_
    rw [hm.cf]
    have hkk : 0 ≤ k ∧ k < wiresN c := ⟨by omega, hko.2⟩
    have hq : 0 ≤ k / c.Tracks / 4 ∧ k / c.Tracks / 4 < c.Tiles.length ∧ 0 ≤ k / c.Tracks ∧ k / c.Tracks ≤ 1000 ∧ 0 ≤ k % c.Tracks ∧ k % c.Tracks < c.Tracks := by
      have hw' : k < (c.Tiles.length : Int) * 4 * c.Tracks := hkk.2
      rcases (by omega : c.Tracks = 2 ∨ c.Tracks = 3) with e | e <;> rw [e] at hw' ⊢ <;> omega
    have e1 : Int.tdiv k c.Tracks = k / c.Tracks := tdivp hkk.1
    have e2 : Int.tdiv (k / c.Tracks) 4 = k / c.Tracks / 4 := tdivp hq.2.2.1
    have e3 : Int.tmod (k / c.Tracks) 4 = k / c.Tracks % 4 := tmodp hq.2.2.1
    have e4 : Int.tmod k c.Tracks = k % c.Tracks := tmodp hkk.1
    rw [e1, e4]
    refine ok_ck (by omega) (ok_ar (by omega) (ok_ck (by omega) ?_))
    rw [e2]
    refine ok_ar (by omega) (ok_ck (by omega) (ok_ar (by omega) (ok_ck (by omega) (ok_lv ?_))))
    rw [e3]
    have htile := h.tile (k / c.Tracks / 4) ⟨hq.1, hq.2.1⟩
    obtain ⟨m0, m1, m2, m3, m4, m5⟩ := hq
    generalize k / c.Tracks / 4 = tile at *
    generalize hside : k / c.Tracks % 4 = side at *
    generalize k % c.Tracks = track at *
    have hs4 : 0 ≤ side ∧ side < 4 := by omega
    refine ok_ck (by omega) (ok_lv (ok_ck ⟨m0, m1⟩ (ok_ck hs4 (ok_lv (ok_lv ?_)))))
    have hsel : inb track (sel4 side (gt c.Tiles tile).Out.fe0 (gt c.Tiles tile).Out.fe1 (gt c.Tiles tile).Out.fe2 (gt c.Tiles tile).Out.fe3).length ∧ OutES (gt (sel4 side (gt c.Tiles tile).Out.fe0 (gt c.Tiles tile).Out.fe1 (gt c.Tiles tile).Out.fe2 (gt c.Tiles tile).Out.fe3) track) := by
      refine sel4_cases (p := fun l => inb track l.length ∧ OutES (gt l track)) hs4 (fun _ => ?_) (fun _ => ?_) (fun _ => ?_) fun _ => ?_
      · have hl := htile.l0
        refine ⟨⟨m4, by omega⟩, ?_⟩
        have := htile.o0 track ⟨m4, by omega⟩
        unfold OutNW at this; unfold OutES; omega
      · have hl := htile.l1
        exact ⟨⟨m4, by omega⟩, htile.o1 track ⟨m4, by omega⟩⟩
      · have hl := htile.l2
        exact ⟨⟨m4, by omega⟩, htile.o2 track ⟨m4, by omega⟩⟩
      · have hl := htile.l3
        refine ⟨⟨m4, by omega⟩, ?_⟩
        have := htile.o3 track ⟨m4, by omega⟩
        unfold OutNW at this; unfold OutES; omega
    generalize sel4 side (gt c.Tiles tile).Out.fe0 (gt c.Tiles tile).Out.fe1 (gt c.Tiles tile).Out.fe2 (gt c.Tiles tile).Out.fe3 = row at *
    refine ok_ck hsel.1 (ok_lv ?_)
    have hx := hsel.2
    generalize gt row track = x at *
    unfold OutES at hx
    refine ok_bd (R := fun r => (r.length : Int) = wiresN c) ?_ fun r hr => ok_some ⟨hr, ht⟩
    refine ok_ite (fun _ => ok_ck ⟨m0, by omega⟩ (ok_lv (ok_ck ⟨hkk.1, by omega⟩ (ok_lv (ok_some (by rw [stt_length]; exact hw)))))) fun _ => ok_bd (R := fun r => (r.length : Int) = wiresN c) ?_ fun r hr => ok_some hr
    refine ok_ite (fun _ => ok_ck ⟨m0, by omega⟩ (ok_lv (ok_ck ⟨hkk.1, by omega⟩ (ok_lv (ok_some (by rw [stt_length]; exact hw)))))) fun _ => ok_bd (R := fun r => (r.length : Int) = wiresN c) ?_ fun r hr => ok_some hr
    refine ok_ite (fun h3x => ok_ar (by omega) (ok_bd (value_ok h (m := T_array_machine.mk c m.forder ws tb m.fflop) ⟨rfl, hm.ord, hm.ordL, hw, ht, hm.flop⟩ hin ⟨m0, m1⟩ (by omega) ⟨m4, m5⟩) fun _ _ => ?_)) fun _ => ok_some hw
    exact ok_ck ⟨hkk.1, by omega⟩ (ok_lv (ok_some (by rw [stt_length]; exact hw)))
  · rintro ⟨a, b⟩ ⟨ha, hb2⟩
    exact ok_ar (by omega) (ok_some ⟨rfl, hlt, ha, hb2⟩)
theorem cycle_ok (h : ConfOk c) {m : T_array_machine} (hm : MOk c m) {in_ : List Bool} (hin : in_.length ≤ 1000) : Ok (P_array_machine_cycle m in_) (fun r => r.1.length ≤ 100 ∧ (r.2.1.length : Int) = wiresN c ∧ r.2.2.1.length = c.Tiles.length ∧ r.2.2.2.length = c.Tiles.length) := by
  have hb := h.wb
  have hol := hm.ordL
  have h1 := h.rows
  have h2 := h.cols
  have h3 := h.tracks
  have ho := h.outL
  unfold P_array_machine_cycle
  refine ok_bd (R := fun s => (s.1.length : Int) = wiresN c ∧ s.2.length = c.Tiles.length) ?_ ?_
  · refine ok_lp (fun s => 0 ≤ s.1 ∧ (s.2.1.length : Int) = wiresN c ∧ s.2.2.length = c.Tiles.length) (fun s => ((m.forder.length : Int) - s.1).toNat) ⟨by simp, hm.wires, hm.table⟩ (by simp only; omega) ?_
    rintro ⟨y, ws, tb⟩ ⟨y0, hw, ht⟩
    refine (step_ok h hm hin hw ht y0).mono fun o ho => ?_
    cases o with
    | inl s =>
      obtain ⟨a, b, d, e⟩ := ho
      simp only at y0
      exact ⟨⟨by omega, d, e⟩, by simp only; omega⟩
    | inr s => exact ho
  rintro ⟨ws, tb⟩ ⟨hw, ht⟩
  refine ok_bd (R := fun r => r.length ≤ 100) ?_ fun out hout => ok_lv (ok_some ⟨hout, hw, ht, by simp only; rw [copyL_length]; exact hm.flop⟩)
  refine ok_lp (fun s => 0 ≤ s.2 ∧ s.2 ≤ c.Out.length ∧ (s.1.length : Int) = s.2) (fun s => ((c.Out.length : Int) - s.2).toNat) ⟨by simp, by simp, by simp⟩ (by simp only; omega) ?_
  rintro ⟨out, y⟩ ⟨y0, y1, y2⟩
  simp only at y0 y1 y2
  unfold P_array_machine_cycle_L17
  dsimp only
  rw [hm.cf]
  refine ok_ite (fun hlt => ?_) fun hge => ok_some (by omega)
  have q := h.out y ⟨y0, hlt⟩
  simp only at q
  refine ok_ck ⟨y0, hlt⟩ (ok_lv ?_)
  generalize gt c.Out y = p at *
  obtain ⟨⟨r0, r1⟩, p2, p3, p4⟩ := q
  have i0 : 0 ≤ p.Row * c.Cols := Int.mul_nonneg r0 (by omega)
  have i1 : (p.Row + 1) * c.Cols ≤ c.Rows * c.Cols := Int.mul_le_mul_of_nonneg_right (by omega) (by omega)
  rw [Int.add_mul, Int.one_mul] at i1
  have hM := h.Mb
  have hL := h.tilesL
  have hwn := wireN_tile (T := c.Tracks) (tile := p.Row * c.Cols + p.Col) (side := p.Side) (track := p.Track) h3 (by omega) (by omega) (by omega)
  have hwl : wireN c.Tracks (p.Row * c.Cols + p.Col) p.Side p.Track < wiresN c := by
    have : (p.Row * c.Cols + p.Col + 1) * 4 * c.Tracks ≤ wiresN c := by
      unfold wiresN
      exact Int.mul_le_mul_of_nonneg_right (by omega) (by omega)
    omega
  refine ok_ar (by omega) (ok_ar (by omega) (ok_bd (R := fun r => r = wireN c.Tracks (p.Row * c.Cols + p.Col) p.Side p.Track) ?_ ?_))
  · have i2 : (p.Row * c.Cols + p.Col) * 4 + p.Side ≤ 40 := by omega
    have i3 : ((p.Row * c.Cols + p.Col) * 4 + p.Side) * c.Tracks ≤ 40 * 3 := Int.mul_le_mul i2 (by omega) (by omega) (by omega)
    have i4 : 0 ≤ ((p.Row * c.Cols + p.Col) * 4 + p.Side) * c.Tracks := Int.mul_nonneg (by omega) (by omega)
    unfold P_array_Config_wire wireN
    dsimp only
    exact ok_ar (by omega) (ok_ar (by omega) (ok_ar (by omega) (ok_ar (by omega) (ok_some rfl))))
  rintro _ rfl
  refine ok_ck ⟨hwn.1, by have hw : (ws.length : Int) = wiresN c := hw; show _ < (ws.length : Int); omega⟩ (ok_lv (ok_lv (ok_ck ?_ (ok_ar (by omega) (ok_some ⟨⟨by simp only; omega, by simp only; omega, by simp only [List.length_append, List.length_singleton]; omega⟩, by simp only; omega⟩)))))
  simp only [apOk, List.length_append, List.length_singleton]; omega
theorem newMachine_ok (h : ConfOk c) : Ok (P_array_newMachine c) (fun r => MOk c (T_array_machine.mk c r.1 r.2.1 r.2.2.1 r.2.2.2)) := by
  have hb := h.wb
  have h3 := h.tracks
  have hw : (c.Tiles.length : Int) * 4 * c.Tracks = wiresN c := rfl
  unfold P_array_newMachine
  refine ok_ar (by omega) ?_
  rw [hw]
  refine ok_ar (by omega) (ok_ck ⟨by omega, by omega⟩ (ok_lv (ok_ck ⟨by omega, by omega⟩ (ok_lv (ok_bd (order_val h) ?_)))))
  rintro ⟨o, b⟩ ⟨-, o1, o2⟩
  simp only at o1 o2
  refine ok_bd (R := fun r => r.length = c.Tiles.length) ?_ fun fl hfl => ok_some ⟨rfl, o1, o2, by simp; omega, by simp, hfl⟩
  refine ok_lp (fun s => 0 ≤ s.1 ∧ s.1 ≤ c.Tiles.length ∧ (s.2.length : Int) = s.1) (fun s => ((c.Tiles.length : Int) - s.1).toNat) ⟨by simp, by simp, by simp⟩ (by simp only; omega) ?_
  rintro ⟨y, fl⟩ ⟨y0, y1, y2⟩
  simp only at y0 y1 y2
  unfold P_array_newMachine_L4
  dsimp only
  refine ok_ite (fun hlt => ok_ck ⟨y0, hlt⟩ (ok_lv (ok_lv (ok_ck ?_ (ok_ar (by omega) (ok_some ⟨⟨by simp only; omega, by simp only; omega, by simp only [List.length_append, List.length_singleton]; omega⟩, by simp only; omega⟩)))))) fun hge => ok_some (by omega)
  simp only [apOk, List.length_append, List.length_singleton]; omega
theorem Run_ok (h : ConfOk c) {tr : List (List Bool)} (ht : tr.length ≤ 10) (hin : ∀ i, inb i tr.length → (gt tr i).length = c.In.length) : Ok (P_array_Run c tr) (fun r => r.2 = 0 ∧ r.1.length ≤ 10 ∧ ∀ i, inb i r.1.length → (gt r.1 i).length ≤ 100) := by
  have hil := h.inL
  have h3 := h.tracks
  unfold P_array_Run
  refine ok_bd (Check_ok h) ?_
  rintro _ rfl
  refine ok_f (by simp) (ok_f (by omega) (ok_bs1 (R := fun _ => True) ?_ fun _ _ => ok_bd (newMachine_ok h) ?_))
  · refine ok_lp (fun y => 0 ≤ y ∧ y ≤ tr.length) (fun y => ((tr.length : Int) - y).toNat) ⟨by omega, by omega⟩ (by omega) ?_
    rintro y ⟨y0, y1⟩
    unfold P_array_Run_L7
    refine ok_ite (fun hlt => ok_ck ⟨y0, hlt⟩ (ok_lv (ok_f ?_ (ok_ar (by omega) (ok_some ⟨⟨by omega, by omega⟩, by omega⟩))))) fun hge => ok_some ⟨_, rfl, trivial⟩
    have := hin y ⟨y0, hlt⟩
    omega
  rintro ⟨od, ws, tb, fl⟩ hm
  refine ok_bd (R := fun r => r.length ≤ 10 ∧ ∀ i, inb i r.length → (gt r i).length ≤ 100) ?_ fun out hout => ok_some ⟨rfl, hout⟩
  refine ok_lp (fun s => 0 ≤ s.2.1 ∧ s.2.1 ≤ tr.length ∧ (s.1.length : Int) = s.2.1 ∧ MOk c (T_array_machine.mk c od s.2.2.1 s.2.2.2.1 s.2.2.2.2) ∧ ∀ i, inb i s.1.length → (gt s.1 i).length ≤ 100) (fun s => ((tr.length : Int) - s.2.1).toNat) ⟨by simp, by simp, by simp, hm, fun i hi => by obtain ⟨a, b⟩ := hi; simp at b; omega⟩ (by simp only; omega) ?_
  rintro ⟨out, y, w1, t1, f1⟩ ⟨y0, y1, y2, y3, y4⟩
  simp only at y0 y1 y2 y3 y4
  unfold P_array_Run_L15
  dsimp only
  refine ok_ite (fun hlt => ok_ck ⟨y0, hlt⟩ (ok_lv (ok_bd (cycle_ok h y3 (by have := hin y ⟨y0, hlt⟩; omega)) ?_))) fun hge => ok_some ⟨by omega, y4⟩
  rintro ⟨o1, w2, t2, f2⟩ ⟨k1, k2, k3, k4⟩
  simp only at k1 k2 k3 k4
  refine ok_lv (ok_ck ?_ (ok_ar (by omega) (ok_some ⟨⟨by simp only; omega, by simp only; omega, by simp only [List.length_append, List.length_singleton]; omega, ⟨rfl, y3.ord, y3.ordL, k2, k3, k4⟩, fun i hi => ?_⟩, by simp only; omega⟩)))
  · simp only [apOk, List.length_append, List.length_singleton]; omega
  · simp only at hi ⊢
    rcases gt_snocP hi with ⟨h1, e⟩ | ⟨h1, e⟩
    · rw [e]; exact y4 i h1
    · rw [e]; exact k1
end
end Go.Proofs.Ytnooiajahmichaa.X
