/- Printed by gen.py: plain functions, and that the Go code computes them. -/
import Derived.Test.YtnooiajahmichaaYR
import Derived.Test.YtnooiajahmichaaXTS
namespace Go.Proofs.Ytnooiajahmichaa.X
open Go Go.RowKit
set_option linter.unusedVariables false
set_option linter.unusedSimpArgs false

structure T_maskmake_Stream where
  L : List Int
  fat : Int
  deriving DecidableEq, Inhabited
def R_maskmake_Stream : Rp T_maskmake_Stream where
  sz := 2
  ok ρ cs x := ∃ A0 n0 c0, cs = [.slice A0 n0 c0, .int .i64 x.fat] ∧ RdS (RpI .i64) ρ A0 n0 c0 x.L
  pos := by decide
  len := by rintro ρ cs x ⟨A0, n0, c0, rfl, _⟩; rfl
  le := by rintro ρ ρ' cs x ⟨A0, n0, c0, rfl, h0⟩ hle; exact ⟨_, _, _, rfl, h0.le hle⟩
  one := by rintro ρ cs x ⟨A0, n0, c0, rfl, _⟩ v hv; exact allOne_spec rfl v hv
theorem R_maskmake_Stream_d : ∃ cs, ∀ ρ, R_maskmake_Stream.ok ρ cs default := ⟨[.slice none 0 0, .int .i64 0], fun ρ => ⟨_, _, _, rfl, RdS.nil⟩⟩

structure T_anon180 where
  fe0 : Int
  fe1 : Int
  fe2 : Int
  fe3 : Int
  deriving DecidableEq, Inhabited
def R_anon180 : Rp T_anon180 where
  sz := 4
  ok _ cs x := cs = [.int .i64 x.fe0, .int .i64 x.fe1, .int .i64 x.fe2, .int .i64 x.fe3]
  pos := by decide
  len := by rintro ρ cs x rfl; rfl
  le := by rintro ρ ρ' cs x rfl hle; rfl
  one := by rintro ρ cs x rfl v hv; exact allOne_spec rfl v hv
theorem R_anon180_d : ∃ cs, ∀ ρ, R_anon180.ok ρ cs default := ⟨[.int .i64 0, .int .i64 0, .int .i64 0, .int .i64 0], fun ρ => rfl⟩

structure T_anon181 where
  fe0 : List Int
  fe1 : List Int
  fe2 : List Int
  fe3 : List Int
  deriving DecidableEq, Inhabited
def R_anon181 : Rp T_anon181 where
  sz := 4
  ok ρ cs x := ∃ A0 n0 c0 A1 n1 c1 A2 n2 c2 A3 n3 c3, cs = [.slice A0 n0 c0, .slice A1 n1 c1, .slice A2 n2 c2, .slice A3 n3 c3] ∧ RdS (RpI .i64) ρ A0 n0 c0 x.fe0 ∧ RdS (RpI .i64) ρ A1 n1 c1 x.fe1 ∧ RdS (RpI .i64) ρ A2 n2 c2 x.fe2 ∧ RdS (RpI .i64) ρ A3 n3 c3 x.fe3
  pos := by decide
  len := by rintro ρ cs x ⟨A0, n0, c0, A1, n1, c1, A2, n2, c2, A3, n3, c3, rfl, _⟩; rfl
  le := by rintro ρ ρ' cs x ⟨A0, n0, c0, A1, n1, c1, A2, n2, c2, A3, n3, c3, rfl, h0, h1, h2, h3⟩ hle; exact ⟨_, _, _, _, _, _, _, _, _, _, _, _, rfl, h0.le hle, h1.le hle, h2.le hle, h3.le hle⟩
  one := by rintro ρ cs x ⟨A0, n0, c0, A1, n1, c1, A2, n2, c2, A3, n3, c3, rfl, _⟩ v hv; exact allOne_spec rfl v hv
theorem R_anon181_d : ∃ cs, ∀ ρ, R_anon181.ok ρ cs default := ⟨[.slice none 0 0, .slice none 0 0, .slice none 0 0, .slice none 0 0], fun ρ => ⟨_, _, _, _, _, _, _, _, _, _, _, _, rfl, RdS.nil, RdS.nil, RdS.nil, RdS.nil⟩⟩

structure T_array_Tile where
  Table : Int
  Init : Bool
  In : T_anon180
  Out : T_anon181
  deriving DecidableEq, Inhabited
def R_array_Tile : Rp T_array_Tile where
  sz := 10
  ok ρ cs x := ∃ A6 n6 c6 A7 n7 c7 A8 n8 c8 A9 n9 c9, cs = [.int .u16 x.Table, .bool x.Init, .int .i64 x.In.fe0, .int .i64 x.In.fe1, .int .i64 x.In.fe2, .int .i64 x.In.fe3, .slice A6 n6 c6, .slice A7 n7 c7, .slice A8 n8 c8, .slice A9 n9 c9] ∧ RdS (RpI .i64) ρ A6 n6 c6 x.Out.fe0 ∧ RdS (RpI .i64) ρ A7 n7 c7 x.Out.fe1 ∧ RdS (RpI .i64) ρ A8 n8 c8 x.Out.fe2 ∧ RdS (RpI .i64) ρ A9 n9 c9 x.Out.fe3
  pos := by decide
  len := by rintro ρ cs x ⟨A6, n6, c6, A7, n7, c7, A8, n8, c8, A9, n9, c9, rfl, _⟩; rfl
  le := by rintro ρ ρ' cs x ⟨A6, n6, c6, A7, n7, c7, A8, n8, c8, A9, n9, c9, rfl, h0, h1, h2, h3⟩ hle; exact ⟨_, _, _, _, _, _, _, _, _, _, _, _, rfl, h0.le hle, h1.le hle, h2.le hle, h3.le hle⟩
  one := by rintro ρ cs x ⟨A6, n6, c6, A7, n7, c7, A8, n8, c8, A9, n9, c9, rfl, _⟩ v hv; exact allOne_spec rfl v hv
theorem R_array_Tile_d : ∃ cs, ∀ ρ, R_array_Tile.ok ρ cs default := ⟨[.int .u16 0, .bool false, .int .i64 0, .int .i64 0, .int .i64 0, .int .i64 0, .slice none 0 0, .slice none 0 0, .slice none 0 0, .slice none 0 0], fun ρ => ⟨_, _, _, _, _, _, _, _, _, _, _, _, rfl, RdS.nil, RdS.nil, RdS.nil, RdS.nil⟩⟩

structure T_array_Pad where
  Row : Int
  Col : Int
  Side : Int
  Track : Int
  deriving DecidableEq, Inhabited
def R_array_Pad : Rp T_array_Pad where
  sz := 4
  ok _ cs x := cs = [.int .i64 x.Row, .int .i64 x.Col, .int .i64 x.Side, .int .i64 x.Track]
  pos := by decide
  len := by rintro ρ cs x rfl; rfl
  le := by rintro ρ ρ' cs x rfl hle; rfl
  one := by rintro ρ cs x rfl v hv; exact allOne_spec rfl v hv
theorem R_array_Pad_d : ∃ cs, ∀ ρ, R_array_Pad.ok ρ cs default := ⟨[.int .i64 0, .int .i64 0, .int .i64 0, .int .i64 0], fun ρ => rfl⟩

structure T_array_Config where
  Rows : Int
  Cols : Int
  Tracks : Int
  Tiles : List T_array_Tile
  In : List T_array_Pad
  Out : List T_array_Pad
  deriving DecidableEq, Inhabited
def R_array_Config : Rp T_array_Config where
  sz := 6
  ok ρ cs x := ∃ A3 n3 c3 A4 n4 c4 A5 n5 c5, cs = [.int .i64 x.Rows, .int .i64 x.Cols, .int .i64 x.Tracks, .slice A3 n3 c3, .slice A4 n4 c4, .slice A5 n5 c5] ∧ RdS R_array_Tile ρ A3 n3 c3 x.Tiles ∧ RdS R_array_Pad ρ A4 n4 c4 x.In ∧ RdS R_array_Pad ρ A5 n5 c5 x.Out
  pos := by decide
  len := by rintro ρ cs x ⟨A3, n3, c3, A4, n4, c4, A5, n5, c5, rfl, _⟩; rfl
  le := by rintro ρ ρ' cs x ⟨A3, n3, c3, A4, n4, c4, A5, n5, c5, rfl, h0, h1, h2⟩ hle; exact ⟨_, _, _, _, _, _, _, _, _, rfl, h0.le hle, h1.le hle, h2.le hle⟩
  one := by rintro ρ cs x ⟨A3, n3, c3, A4, n4, c4, A5, n5, c5, rfl, _⟩ v hv; exact allOne_spec rfl v hv
theorem R_array_Config_d : ∃ cs, ∀ ρ, R_array_Config.ok ρ cs default := ⟨[.int .i64 0, .int .i64 0, .int .i64 0, .slice none 0 0, .slice none 0 0, .slice none 0 0], fun ρ => ⟨_, _, _, _, _, _, _, _, _, rfl, RdS.nil, RdS.nil, RdS.nil⟩⟩

structure T_stream_writer where
  fb : List Int
  fleft : Int
  deriving DecidableEq, Inhabited
def R_stream_writer : Rp T_stream_writer where
  sz := 2
  ok ρ cs x := ∃ A0 n0 c0, cs = [.slice A0 n0 c0, .int .i64 x.fleft] ∧ RdS (RpI .u8) ρ A0 n0 c0 x.fb
  pos := by decide
  len := by rintro ρ cs x ⟨A0, n0, c0, rfl, _⟩; rfl
  le := by rintro ρ ρ' cs x ⟨A0, n0, c0, rfl, h0⟩ hle; exact ⟨_, _, _, rfl, h0.le hle⟩
  one := by rintro ρ cs x ⟨A0, n0, c0, rfl, _⟩ v hv; exact allOne_spec rfl v hv
theorem R_stream_writer_d : ∃ cs, ∀ ρ, R_stream_writer.ok ρ cs default := ⟨[.slice none 0 0, .int .i64 0], fun ρ => ⟨_, _, _, rfl, RdS.nil⟩⟩

structure T_stream_reader where
  fb : List Int
  fat : Int
  fover : Bool
  deriving DecidableEq, Inhabited
def R_stream_reader : Rp T_stream_reader where
  sz := 3
  ok ρ cs x := ∃ A0 n0 c0, cs = [.slice A0 n0 c0, .int .i64 x.fat, .bool x.fover] ∧ RdS (RpI .u8) ρ A0 n0 c0 x.fb
  pos := by decide
  len := by rintro ρ cs x ⟨A0, n0, c0, rfl, _⟩; rfl
  le := by rintro ρ ρ' cs x ⟨A0, n0, c0, rfl, h0⟩ hle; exact ⟨_, _, _, rfl, h0.le hle⟩
  one := by rintro ρ cs x ⟨A0, n0, c0, rfl, _⟩ v hv; exact allOne_spec rfl v hv
theorem R_stream_reader_d : ∃ cs, ∀ ρ, R_stream_reader.ok ρ cs default := ⟨[.slice none 0 0, .int .i64 0, .bool false], fun ρ => ⟨_, _, _, rfl, RdS.nil⟩⟩

structure T_array_machine where
  fc : T_array_Config
  forder : List Int
  fwires : List Bool
  ftable : List Bool
  fflop : List Bool
  deriving DecidableEq, Inhabited
def R_array_machine : Rp T_array_machine where
  sz := 10
  ok ρ cs x := ∃ A3 n3 c3 A4 n4 c4 A5 n5 c5 A6 n6 c6 A7 n7 c7 A8 n8 c8 A9 n9 c9, cs = [.int .i64 x.fc.Rows, .int .i64 x.fc.Cols, .int .i64 x.fc.Tracks, .slice A3 n3 c3, .slice A4 n4 c4, .slice A5 n5 c5, .slice A6 n6 c6, .slice A7 n7 c7, .slice A8 n8 c8, .slice A9 n9 c9] ∧ RdS R_array_Tile ρ A3 n3 c3 x.fc.Tiles ∧ RdS R_array_Pad ρ A4 n4 c4 x.fc.In ∧ RdS R_array_Pad ρ A5 n5 c5 x.fc.Out ∧ RdS (RpI .i64) ρ A6 n6 c6 x.forder ∧ RdS RpB ρ A7 n7 c7 x.fwires ∧ RdS RpB ρ A8 n8 c8 x.ftable ∧ RdS RpB ρ A9 n9 c9 x.fflop
  pos := by decide
  len := by rintro ρ cs x ⟨A3, n3, c3, A4, n4, c4, A5, n5, c5, A6, n6, c6, A7, n7, c7, A8, n8, c8, A9, n9, c9, rfl, _⟩; rfl
  le := by rintro ρ ρ' cs x ⟨A3, n3, c3, A4, n4, c4, A5, n5, c5, A6, n6, c6, A7, n7, c7, A8, n8, c8, A9, n9, c9, rfl, h0, h1, h2, h3, h4, h5, h6⟩ hle; exact ⟨_, _, _, _, _, _, _, _, _, _, _, _, _, _, _, _, _, _, _, _, _, rfl, h0.le hle, h1.le hle, h2.le hle, h3.le hle, h4.le hle, h5.le hle, h6.le hle⟩
  one := by rintro ρ cs x ⟨A3, n3, c3, A4, n4, c4, A5, n5, c5, A6, n6, c6, A7, n7, c7, A8, n8, c8, A9, n9, c9, rfl, _⟩ v hv; exact allOne_spec rfl v hv
theorem R_array_machine_d : ∃ cs, ∀ ρ, R_array_machine.ok ρ cs default := ⟨[.int .i64 0, .int .i64 0, .int .i64 0, .slice none 0 0, .slice none 0 0, .slice none 0 0, .slice none 0 0, .slice none 0 0, .slice none 0 0, .slice none 0 0], fun ρ => ⟨_, _, _, _, _, _, _, _, _, _, _, _, _, _, _, _, _, _, _, _, _, rfl, RdS.nil, RdS.nil, RdS.nil, RdS.nil, RdS.nil, RdS.nil, RdS.nil⟩⟩

def P_maskmake_Below (x0 : Int) (n1 : Int) : Option Int :=
  if n1 < 1 then
    some (0 : Int)
  else
    ck (n1 ≠ 0) <|
    lv (Int.tmod x0 n1) fun x9 =>
    bd (
      if x9 < 0 then
        ar (x9 + n1) fun x14 =>
        some x14
      else
        some x9) fun q2 =>
    some q2
set_option maxHeartbeats 4000000 in
set_option maxRecDepth 100000 in
theorem c_maskmake_Below {w0 w : World} {l : List Assn} {ρ : Heap} {x0 : Int} {n1 : Int} {r : Int} (hF : P_maskmake_Below x0 n1 = some r) (hS : St w0 w (ro ρ :: l)) :
    Calls Try.prog 38 #[.int .i64 x0, .int .i64 n1] w fun e w' => e = .returned (.int .i64 r) ∧ St w0 w' (ro ρ :: l) := by
  refine enterC Try.func38 rfl 16 rfl (by simp) ?_
  refine x_seq <| x_region <| p (yl_assign rfl) <| x_done <|
    x_seq <| x_seq <| x_region <| p (yl_move rfl) <|
    p (yl_lss rfl rfl) <| x_done <|
    x_cond_p (n1 < 1) rfl (fun hc6 => ?_) (fun hc6 => ?_)
  · replace hF := it_t hc6 hF
    refine x_seq <| x_region <| p (yl_assign rfl) <| x_done <|
      ?_
    have e_ := Option.some.inj (show some _ = some _ from hF); subst e_
    exact x_return ⟨_, ⟨_, _, rfl, rfl, rfl⟩, rfl, hS⟩
  · replace hF := it_f hc6 hF
    replace hF := ck_s hF; obtain ⟨q4, hF⟩ := hF
    replace hF := lv_s hF; obtain ⟨x9, hx9, hF⟩ := hF
    refine x_skip <| x_seq <| x_region <| p (yl_move rfl) <|
      p (yl_move rfl) <| p (yrem rfl rfl q4 hx9) <| p (yl_assign rfl) <| x_done <|
      x_seq <| x_seq <| x_region <| p (yl_move rfl) <|
      p (yl_lss rfl rfl) <| x_done <|
      ?_
    replace hF := bd_s hF; obtain ⟨oc11, hFc11, hF⟩ := hF
    refine x_join (fun E w => ∃ (q2 : Int), q2 = oc11 ∧ E 0 = .int .i64 q2 ∧ St w0 w (ro ρ :: l)) ?_ ?_
    · skip -- c11
      refine x_cond_p (x9 < 0) rfl (fun hc11 => ?_) (fun hc11 => ?_)
      · replace hFc11 := it_t hc11 hFc11
        replace hFc11 := ar_s hFc11; obtain ⟨x14, hx14, hFc11⟩ := hFc11
        refine x_region <| p (yl_move rfl) <| p (yl_move rfl) <| p (yadd rfl rfl hx14) <|
          p (yl_assign rfl) <| x_done <|
          ?_
        exact x_inv ⟨x14, (Option.some.inj (show some _ = some _ from hFc11)), rfl, hS⟩
      · replace hFc11 := it_f hc11 hFc11
        refine x_skip <|
          ?_
        exact x_inv ⟨x9, (Option.some.inj (show some _ = some _ from hFc11)), rfl, hS⟩
    rintro E w ⟨q2, rfl, q3, hS⟩
    refine x_seq <| x_region <| p (yl_move q3) <| p (yl_assign rfl) <|
      x_done <|
      ?_
    have e_ := Option.some.inj (show some _ = some _ from hF); subst e_
    exact x_return ⟨_, ⟨_, _, rfl, rfl, rfl⟩, rfl, hS⟩
attribute [irreducible] P_maskmake_Below

def P_maskmake_Stream_Next (s0 : T_maskmake_Stream) (n1 : Int) : Option (Int × Int) :=
  ar (s0.fat + 1) fun x11 =>
  if (s0.L.length : Int) = 0 then
    ar (x11 * 7919) fun x24 =>
    bd (P_maskmake_Below x24 n1) fun q3 =>
    some (q3, x11)
  else
    ar (x11 - 1) fun x31 =>
    ck ((s0.L.length : Int) ≠ 0) <|
    lv (Int.tmod x31 (s0.L.length : Int)) fun x37 =>
    ar (x11 - 1) fun x42 =>
    ck ((s0.L.length : Int) ≠ 0) <|
    ar (Int.tdiv x42 (s0.L.length : Int)) fun x48 =>
    ck (inb x37 s0.L.length) <|
    lv (gt s0.L x37) fun x55 =>
    bd (P_maskmake_Below x55 1073741824) fun q4 =>
    ar ((7919 : Int) + x37) fun x59 =>
    ar (x48 * x59) fun x60 =>
    ar (q4 + x60) fun x61 =>
    bd (P_maskmake_Below x61 n1) fun q2 =>
    some (q2, x11)
set_option maxHeartbeats 4000000 in
set_option maxRecDepth 100000 in
theorem c_maskmake_Stream_Next {w0 w : World} {l : List Assn} {ρ : Heap} {q5 : Nat} {q2 : Option Addr} {q3 : Nat} {c_s0_0 : Nat} {s0 : T_maskmake_Stream} {n1 : Int} {r : (Int × Int)} (hF : P_maskmake_Stream_Next s0 n1 = some r) (q4 : RdS (RpI .i64) ρ q2 q3 c_s0_0 s0.L) (hS : St w0 w (cells q5 25 [.slice q2 q3 c_s0_0, .int .i64 s0.fat] :: ro ρ :: l)) :
    Calls Try.prog 15 #[.pointer (some ⟨q5, 0, none⟩), .int .i64 n1] w fun e w' => e = .returned (.int .i64 r.1) ∧ St w0 w' (cells q5 25 [.slice q2 q3 c_s0_0, .int .i64 r.2] :: ro ρ :: l) := by
  have e_ := q4.n; subst e_
  refine enterC Try.func15 rfl 64 rfl (by simp) ?_
  replace hF := ar_s hF; obtain ⟨x11, hx11, hF⟩ := hF
  refine x_seq <| x_region <| p (yl_assign rfl) <| x_done <|
    x_seq <| x_region <| p (yl_move rfl) <| p (yl_nilCheck rfl) <|
    p (yl_field0 fld_25_1 rfl) <| pa (at_load one_3 rfl (hS.cell rfl)) <| p (yadd rfl rfl hx11) <| p (yl_nilCheck rfl) <|
    p (yl_field0 fld_25_1 rfl) <|
    ?_
  refine o_store1 (v := .int .i64 x11) one_3 rfl rfl rfl rfl hS (fun w' hS => ?_)
  refine x_done <| x_seq <| x_seq <| x_region <|
    p (yl_move rfl) <| p (yl_nilCheck rfl) <| p (yl_field0 fld_25_0 rfl) <| pa (at_load one_22 rfl (hS.cell rfl)) <|
    p (yl_len_slice usl_22 rfl) <| p (yl_eql rfl rfl) <| x_done <|
    x_cond_p ((s0.L.length : Int) = 0) rfl (fun hc19 => ?_) (fun hc19 => ?_)
  · replace hF := it_t hc19 hF
    replace hF := ar_s hF; obtain ⟨x24, hx24, hF⟩ := hF
    replace hF := bd_s hF; obtain ⟨q0d, q0a, hF⟩ := hF
    refine x_seq <| x_region <| p (yl_move rfl) <| p (yl_nilCheck rfl) <|
      p (yl_field0 fld_25_1 rfl) <| pa (at_load one_3 rfl (hS.cell rfl)) <| p (ymul rfl rfl hx24) <| p (yl_move rfl) <|
      ?_
    have hcall := c_maskmake_Below q0a  (hS.pull 1)
    refine o_cc call_38 (args2 rfl rfl) ((Calls.mono hcall (fun e w'' h => And.intro h.1 (h.2.pull 1)))) ?_
    rintro e w' ⟨rfl, hS⟩
    refine ⟨_, rfl, ?_⟩
    refine p (v := .int .i64 q0d) (yl_assign rfl) <| x_done <|
      ?_
    have e_ := Option.some.inj (show some _ = some _ from hF); subst e_
    exact x_return ⟨_, ⟨_, _, rfl, rfl, rfl⟩, rfl, ((hS.pull 1).pull 1)⟩
  · replace hF := it_f hc19 hF
    replace hF := ar_s hF; obtain ⟨x31, hx31, hF⟩ := hF
    replace hF := ck_s hF; obtain ⟨q7, hF⟩ := hF
    replace hF := lv_s hF; obtain ⟨x37, hx37, hF⟩ := hF
    refine x_skip <| x_seq <| x_still mixed (by kernel_rfl) hS <| q (yl_move rfl) <|
      q (yl_nilCheck rfl) <| q (yl_field0 fld_25_1 rfl) <| qa (fun w' hS => at_load one_3 rfl (hS.cell rfl)) <| q (ysub rfl rfl hx31) <|
      q (yl_move rfl) <| q (yl_nilCheck rfl) <| q (yl_field0 fld_25_0 rfl) <| qa (fun w' hS => at_load one_22 rfl (hS.cell rfl)) <|
      q (yl_len_slice usl_22 rfl) <| q (yrem rfl rfl q7 hx37) <| q (yl_assign rfl) <|
      q_done fun w' hS => ?_
    replace hF := ar_s hF; obtain ⟨x42, hx42, hF⟩ := hF
    replace hF := ck_s hF; obtain ⟨q8, hF⟩ := hF
    replace hF := ar_s hF; obtain ⟨x48, hx48, hF⟩ := hF
    refine x_seq <| x_still mixed (by kernel_rfl) hS <| q (yl_move rfl) <| q (yl_nilCheck rfl) <|
      q (yl_field0 fld_25_1 rfl) <| qa (fun w' hS => at_load one_3 rfl (hS.cell rfl)) <| q (ysub rfl rfl hx42) <| q (yl_move rfl) <|
      q (yl_nilCheck rfl) <| q (yl_field0 fld_25_0 rfl) <| qa (fun w' hS => at_load one_22 rfl (hS.cell rfl)) <| q (yl_len_slice usl_22 rfl) <|
      q (yquo rfl rfl q8 hx48) <| q (yl_assign rfl) <|
      q_done fun w' hS => ?_
    replace hF := ck_s hF; obtain ⟨q6, hF⟩ := hF
    replace hF := lv_s hF; obtain ⟨x55, hx55, hF⟩ := hF
    replace hF := bd_s hF; obtain ⟨q0e, q0b, hF⟩ := hF
    refine x_seq <| x_region <| p (yl_move rfl) <| p (yl_nilCheck rfl) <|
      p (yl_field0 fld_25_0 rfl) <| pa (at_load one_22 rfl (hS.cell rfl)) <| p (yl_move rfl) <| p (yix_f sl_22 rfl rfl q4 q6) <|
      pa (at_load one_3 rfl (RdS.getW q4 (hS.pull 1) q6 hx55)) <|
      ?_
    have hcall := c_maskmake_Below q0b  (hS.pull 1)
    refine o_cc call_38 (args2 rfl rfl) ((Calls.mono hcall (fun e w'' h => And.intro h.1 (h.2.pull 1)))) ?_
    rintro e w' ⟨rfl, hS⟩
    refine ⟨_, rfl, ?_⟩
    replace hF := ar_s hF; obtain ⟨x59, hx59, hF⟩ := hF
    replace hF := ar_s hF; obtain ⟨x60, hx60, hF⟩ := hF
    replace hF := ar_s hF; obtain ⟨x61, hx61, hF⟩ := hF
    replace hF := bd_s hF; obtain ⟨q0c, q9, hF⟩ := hF
    refine p (yl_move rfl) <| p (yl_move rfl) <| p (yadd rfl rfl hx59) <| p (ymul rfl rfl hx60) <|
      p (yadd rfl rfl hx61) <| p (yl_move rfl) <|
      ?_
    have hcall := c_maskmake_Below q9  (hS.pull 1)
    refine o_cc call_38 (args2 rfl rfl) ((Calls.mono hcall (fun e w'' h => And.intro h.1 (h.2.pull 1)))) ?_
    rintro e w' ⟨rfl, hS⟩
    refine ⟨_, rfl, ?_⟩
    refine p (v := .int .i64 q0c) (yl_assign rfl) <| x_done <|
      ?_
    have e_ := Option.some.inj (show some _ = some _ from hF); subst e_
    exact x_return ⟨_, ⟨_, _, rfl, rfl, rfl⟩, rfl, ((hS.pull 1).pull 1)⟩
attribute [irreducible] P_maskmake_Stream_Next

def P_maskmake_Stream_Range (s0 : T_maskmake_Stream) (low1 : Int) (high2 : Int) : Option (Int × Int) :=
  if high2 < low1 then
    some (low1, s0.fat)
  else
    ar (high2 - low1) fun x15 =>
    ar (x15 + 1) fun x16 =>
    bd (P_maskmake_Stream_Next s0 x16) fun q2 =>
    ar (low1 + q2.1) fun x18 =>
    some (x18, q2.2)
set_option maxHeartbeats 4000000 in
set_option maxRecDepth 100000 in
theorem c_maskmake_Stream_Range {w0 w : World} {l : List Assn} {ρ : Heap} {q5 : Nat} {q2 : Option Addr} {q3 : Nat} {c_s0_0 : Nat} {s0 : T_maskmake_Stream} {low1 : Int} {high2 : Int} {r : (Int × Int)} (hF : P_maskmake_Stream_Range s0 low1 high2 = some r) (q4 : RdS (RpI .i64) ρ q2 q3 c_s0_0 s0.L) (hS : St w0 w (cells q5 25 [.slice q2 q3 c_s0_0, .int .i64 s0.fat] :: ro ρ :: l)) :
    Calls Try.prog 14 #[.pointer (some ⟨q5, 0, none⟩), .int .i64 low1, .int .i64 high2] w fun e w' => e = .returned (.int .i64 r.1) ∧ St w0 w' (cells q5 25 [.slice q2 q3 c_s0_0, .int .i64 r.2] :: ro ρ :: l) := by
  have e_ := q4.n; subst e_
  refine enterC Try.func14 rfl 19 rfl (by simp) ?_
  refine x_seq <| x_region <| p (yl_assign rfl) <| x_done <|
    x_seq <| x_seq <| x_region <| p (yl_move rfl) <|
    p (yl_move rfl) <| p (yl_lss rfl rfl) <| x_done <|
    x_cond_p (high2 < low1) rfl (fun hc9 => ?_) (fun hc9 => ?_)
  · replace hF := it_t hc9 hF
    refine x_seq <| x_region <| p (yl_move rfl) <| p (yl_assign rfl) <|
      x_done <|
      ?_
    have e_ := Option.some.inj (show some _ = some _ from hF); subst e_
    exact x_return ⟨_, ⟨_, _, rfl, rfl, rfl⟩, rfl, ((hS.pull 1).pull 1)⟩
  · replace hF := it_f hc9 hF
    replace hF := ar_s hF; obtain ⟨x15, hx15, hF⟩ := hF
    replace hF := ar_s hF; obtain ⟨x16, hx16, hF⟩ := hF
    replace hF := bd_s hF; obtain ⟨q7, q6, hF⟩ := hF
    refine x_skip <| x_seq <| x_region <| p (yl_move rfl) <|
      p (yl_move rfl) <| p (yl_move rfl) <| p (yl_move rfl) <| p (ysub rfl rfl hx15) <|
      p (yadd rfl rfl hx16) <|
      ?_
    have hcall := c_maskmake_Stream_Next q6 q4 ((hS.pull 1).pull 1)
    refine o_cc call_15 (args2 rfl rfl) hcall ?_
    rintro e w' ⟨rfl, hS⟩
    refine ⟨_, rfl, ?_⟩
    replace hF := ar_s hF; obtain ⟨x18, hx18, hF⟩ := hF
    refine p (yadd rfl rfl hx18) <| p (yl_assign rfl) <| x_done <|
      ?_
    have e_ := Option.some.inj (show some _ = some _ from hF); subst e_
    exact x_return ⟨_, ⟨_, _, rfl, rfl, rfl⟩, rfl, ((hS.pull 1).pull 1)⟩
attribute [irreducible] P_maskmake_Stream_Range

def P_maskmake_Stream_Flip (s0 : T_maskmake_Stream) (n1 : Int) : Option (Bool × Int) :=
  bd (P_maskmake_Stream_Next s0 n1) fun q2 =>
  some (decide (q2.1 = 0), q2.2)
set_option maxHeartbeats 4000000 in
set_option maxRecDepth 100000 in
theorem c_maskmake_Stream_Flip {w0 w : World} {l : List Assn} {ρ : Heap} {q5 : Nat} {q2 : Option Addr} {q3 : Nat} {c_s0_0 : Nat} {s0 : T_maskmake_Stream} {n1 : Int} {r : (Bool × Int)} (hF : P_maskmake_Stream_Flip s0 n1 = some r) (q4 : RdS (RpI .i64) ρ q2 q3 c_s0_0 s0.L) (hS : St w0 w (cells q5 25 [.slice q2 q3 c_s0_0, .int .i64 s0.fat] :: ro ρ :: l)) :
    Calls Try.prog 75 #[.pointer (some ⟨q5, 0, none⟩), .int .i64 n1] w fun e w' => e = .returned (.bool r.1) ∧ St w0 w' (cells q5 25 [.slice q2 q3 c_s0_0, .int .i64 r.2] :: ro ρ :: l) := by
  have e_ := q4.n; subst e_
  refine enterC Try.func75 rfl 9 rfl (by simp) ?_
  replace hF := bd_s hF; obtain ⟨q7, q6, hF⟩ := hF
  refine x_seq <| x_region <| p (yl_assign rfl) <| x_done <|
    x_seq <| x_region <| p (yl_move rfl) <| p (yl_move rfl) <|
    ?_
  have hcall := c_maskmake_Stream_Next q6 q4 ((hS.pull 1).pull 1)
  refine o_cc call_15 (args2 rfl rfl) hcall ?_
  rintro e w' ⟨rfl, hS⟩
  refine ⟨_, rfl, ?_⟩
  refine p (yl_eql rfl rfl) <| p (yl_assign rfl) <| x_done <|
    ?_
  have e_ := Option.some.inj (show some _ = some _ from hF); subst e_
  exact x_return ⟨_, ⟨_, _, rfl, rfl, rfl⟩, rfl, ((hS.pull 1).pull 1)⟩
attribute [irreducible] P_maskmake_Stream_Flip

def P_maskmake_Stream_Pick (s0 : T_maskmake_Stream) (l_1 : List Int) : Option (Int × Int) :=
  bd (P_maskmake_Stream_Next s0 (l_1.length : Int)) fun q2 =>
  ck (inb q2.1 l_1.length) <|
  lv (gt l_1 q2.1) fun x11 =>
  some (x11, q2.2)
set_option maxHeartbeats 4000000 in
set_option maxRecDepth 100000 in
theorem c_maskmake_Stream_Pick {w0 w : World} {l : List Assn} {ρ : Heap} {q6 : Nat} {q2 : Option Addr} {q3 : Nat} {c_s0_0 : Nat} {q7 : Option Addr} {q8 : Nat} {c_l_1 : Nat} {s0 : T_maskmake_Stream} {l_1 : List Int} {r : (Int × Int)} (hF : P_maskmake_Stream_Pick s0 l_1 = some r) (q5 : RdS (RpI .i64) ρ q2 q3 c_s0_0 s0.L) (q4 : RdS (RpI .i64) ρ q7 q8 c_l_1 l_1) (hS : St w0 w (cells q6 25 [.slice q2 q3 c_s0_0, .int .i64 s0.fat] :: ro ρ :: l)) :
    Calls Try.prog 92 #[.pointer (some ⟨q6, 0, none⟩), .slice q7 q8 c_l_1] w fun e w' => e = .returned (.int .i64 r.1) ∧ St w0 w' (cells q6 25 [.slice q2 q3 c_s0_0, .int .i64 r.2] :: ro ρ :: l) := by
  have e_ := q5.n; subst e_
  have e_ := q4.n; subst e_
  refine enterC Try.func92 rfl 12 rfl (by simp) ?_
  replace hF := bd_s hF; obtain ⟨q0b, q0a, hF⟩ := hF
  refine x_seq <| x_region <| p (yl_assign rfl) <| x_done <|
    x_seq <| x_region <| p (yl_move rfl) <| p (yl_move rfl) <|
    p (yl_move rfl) <| p (yl_len_slice usl_22 rfl) <|
    ?_
  have hcall := c_maskmake_Stream_Next q0a q5 ((hS.pull 1).pull 1)
  refine o_cc call_15 (args2 rfl rfl) hcall ?_
  rintro e w' ⟨rfl, hS⟩
  refine ⟨_, rfl, ?_⟩
  replace hF := ck_s hF; obtain ⟨q9, hF⟩ := hF
  replace hF := lv_s hF; obtain ⟨x11, hx11, hF⟩ := hF
  refine p (yix_f sl_22 rfl rfl q4 q9) <| pa (at_load one_3 rfl (RdS.getW q4 (hS.pull 1) q9 hx11)) <| p (yl_assign rfl) <| x_done <|
    ?_
  have e_ := Option.some.inj (show some _ = some _ from hF); subst e_
  exact x_return ⟨_, ⟨_, _, rfl, rfl, rfl⟩, rfl, ((hS.pull 1).pull 1)⟩
attribute [irreducible] P_maskmake_Stream_Pick


end Go.Proofs.Ytnooiajahmichaa.X
