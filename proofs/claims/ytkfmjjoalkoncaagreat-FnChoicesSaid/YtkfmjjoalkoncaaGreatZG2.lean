/-
  The types of this seat's program, as the walk over plain data wants them. No condition.
-/
import Derived.Test.YtkfmjjoalkoncaaGreatZRun
import Derived.Test.YtkfmjjoalkoncaaGreatChecked
import Derived.Test.YtkfmjjoalkoncaaGreatZJO
import Derived.Test.YtkfmjjoalkoncaaGreatZSV
import Derived.Test.YtkfmjjoalkoncaaGreatZEnd
namespace Go.Proofs.YtkfmjjoalkoncaaGreat
open Go.AI
def tyl : List (Nat × TI) := [(1, ⟨1, .scalar⟩),
  (2, ⟨1, .ik .i64⟩),
  (3, ⟨1, .ik .i64⟩),
  (4, ⟨1, .bool⟩),
  (5, ⟨1, .ik .u8⟩),
  (6, ⟨1, .ik .u8⟩),
  (7, ⟨4, .struct [(0, 1), (1, 1), (2, 1), (3, 1)]⟩),
  (8, ⟨4, .struct [(0, 1), (1, 1), (2, 1), (3, 1)]⟩),
  (9, ⟨1, .str⟩),
  (10, ⟨1, .str⟩),
  (11, ⟨1, .str⟩),
  (12, ⟨1, .ik .u64⟩),
  (13, ⟨2, .struct [(0, 1), (1, 1)]⟩),
  (14, ⟨2, .struct [(0, 1), (1, 1)]⟩),
  (15, ⟨1, .scalar⟩),
  (16, ⟨1, .scalar⟩),
  (17, ⟨1, .scalar⟩),
  (18, ⟨1, .struct [(0, 1)]⟩),
  (19, ⟨1, .struct [(0, 1)]⟩),
  (21, ⟨1, .ik .i32⟩),
  (22, ⟨1, .slice 5 1⟩),
  (23, ⟨1, .scalar⟩),
  (24, ⟨1, .slice 2 1⟩),
  (25, ⟨1, .slice 64 9⟩),
  (26, ⟨3, .struct [(0, 1), (1, 1), (2, 1)]⟩),
  (27, ⟨3, .struct [(0, 1), (1, 1), (2, 1)]⟩),
  (28, ⟨1, .slice 4 1⟩),
  (29, ⟨1, .slice 24 1⟩),
  (30, ⟨3, .struct [(0, 1), (1, 1), (2, 1)]⟩),
  (31, ⟨3, .struct [(0, 1), (1, 1), (2, 1)]⟩),
  (33, ⟨1, .scalar⟩),
  (34, ⟨1, .scalar⟩),
  (36, ⟨1, .scalar⟩),
  (38, ⟨1, .scalar⟩),
  (40, ⟨1, .scalar⟩),
  (42, ⟨1, .scalar⟩),
  (43, ⟨1, .scalar⟩),
  (44, ⟨1, .scalar⟩),
  (45, ⟨1, .scalar⟩),
  (46, ⟨1, .scalar⟩),
  (47, ⟨1, .scalar⟩),
  (48, ⟨1, .scalar⟩),
  (49, ⟨1, .scalar⟩),
  (50, ⟨1, .scalar⟩),
  (51, ⟨1, .scalar⟩),
  (52, ⟨1, .scalar⟩),
  (53, ⟨1, .scalar⟩),
  (54, ⟨1, .scalar⟩),
  (55, ⟨1, .scalar⟩),
  (56, ⟨1, .scalar⟩),
  (57, ⟨1, .scalar⟩),
  (59, ⟨1, .scalar⟩),
  (60, ⟨1, .scalar⟩),
  (61, ⟨1, .scalar⟩),
  (62, ⟨1, .slice 104 2⟩),
  (63, ⟨9, .struct [(0, 1), (1, 1), (2, 1), (3, 1), (4, 1), (5, 1), (6, 1), (7, 1), (8, 1)]⟩),
  (64, ⟨9, .struct [(0, 1), (1, 1), (2, 1), (3, 1), (4, 1), (5, 1), (6, 1), (7, 1), (8, 1)]⟩),
  (65, ⟨1, .scalar⟩),
  (66, ⟨1, .scalar⟩),
  (67, ⟨1, .ik .u64⟩),
  (68, ⟨3, .struct [(0, 1), (1, 1), (2, 1)]⟩),
  (69, ⟨3, .struct [(0, 1), (1, 1), (2, 1)]⟩),
  (70, ⟨1, .scalar⟩),
  (71, ⟨1, .scalar⟩),
  (72, ⟨1, .scalar⟩),
  (73, ⟨1, .slice 79 1⟩),
  (74, ⟨1, .slice 29 1⟩),
  (76, ⟨1, .scalar⟩),
  (77, ⟨1, .scalar⟩),
  (78, ⟨1, .scalar⟩),
  (79, ⟨1, .slice 3 1⟩),
  (80, ⟨1, .scalar⟩),
  (81, ⟨1, .scalar⟩),
  (82, ⟨1, .scalar⟩),
  (83, ⟨1, .slice 87 2⟩),
  (85, ⟨1, .scalar⟩),
  (86, ⟨2, .struct [(0, 1), (1, 1)]⟩),
  (87, ⟨2, .struct [(0, 1), (1, 1)]⟩),
  (88, ⟨1, .scalar⟩),
  (89, ⟨1, .scalar⟩),
  (90, ⟨1, .scalar⟩),
  (91, ⟨1, .scalar⟩),
  (92, ⟨1, .scalar⟩),
  (93, ⟨1, .scalar⟩),
  (94, ⟨1, .scalar⟩),
  (95, ⟨1, .scalar⟩),
  (96, ⟨1, .scalar⟩),
  (97, ⟨1, .scalar⟩),
  (98, ⟨6, .arr 6 2 1⟩),
  (99, ⟨1, .scalar⟩),
  (100, ⟨1, .scalar⟩),
  (101, ⟨1, .scalar⟩),
  (102, ⟨1, .scalar⟩),
  (103, ⟨2, .struct [(0, 1), (1, 1)]⟩),
  (104, ⟨2, .struct [(0, 1), (1, 1)]⟩),
  (105, ⟨1, .scalar⟩),
  (106, ⟨1, .scalar⟩),
  (107, ⟨1, .scalar⟩),
  (108, ⟨1, .scalar⟩),
  (110, ⟨1, .scalar⟩),
  (111, ⟨1, .scalar⟩),
  (112, ⟨1, .scalar⟩),
  (113, ⟨6, .arr 6 3 1⟩),
  (114, ⟨1, .scalar⟩),
  (115, ⟨1, .scalar⟩),
  (116, ⟨1, .scalar⟩),
  (117, ⟨1, .ik .u64⟩),
  (118, ⟨1, .scalar⟩),
  (119, ⟨1, .scalar⟩),
  (120, ⟨1, .scalar⟩),
  (121, ⟨1, .scalar⟩),
  (122, ⟨1, .scalar⟩),
  (123, ⟨1, .scalar⟩),
  (124, ⟨1, .scalar⟩),
  (125, ⟨1, .scalar⟩),
  (126, ⟨1, .scalar⟩),
  (127, ⟨1, .scalar⟩),
  (128, ⟨1, .scalar⟩),
  (129, ⟨1, .scalar⟩),
  (130, ⟨1, .scalar⟩),
  (131, ⟨1, .scalar⟩),
  (132, ⟨1, .scalar⟩),
  (133, ⟨1, .scalar⟩),
  (134, ⟨1, .ik .i64⟩),
  (136, ⟨1, .scalar⟩),
  (137, ⟨1, .scalar⟩),
  (138, ⟨1, .scalar⟩),
  (140, ⟨1, .scalar⟩),
  (141, ⟨1, .scalar⟩),
  (142, ⟨1, .ik .u32⟩),
  (143, ⟨1, .scalar⟩),
  (144, ⟨1, .scalar⟩),
  (145, ⟨1, .scalar⟩),
  (146, ⟨1, .scalar⟩),
  (147, ⟨1, .scalar⟩),
  (148, ⟨1, .struct [(0, 1)]⟩),
  (149, ⟨1, .struct [(0, 1)]⟩),
  (150, ⟨1, .scalar⟩),
  (151, ⟨1, .scalar⟩),
  (152, ⟨1, .ik .u64⟩),
  (153, ⟨1, .scalar⟩),
  (154, ⟨1, .scalar⟩),
  (155, ⟨1, .scalar⟩),
  (156, ⟨1, .scalar⟩),
  (157, ⟨1, .scalar⟩),
  (158, ⟨1, .scalar⟩),
  (159, ⟨1, .scalar⟩),
  (161, ⟨1, .scalar⟩),
  (162, ⟨1, .scalar⟩),
  (163, ⟨4, .struct [(0, 1), (1, 1), (2, 1), (3, 1)]⟩),
  (164, ⟨4, .struct [(0, 1), (1, 1), (2, 1), (3, 1)]⟩),
  (165, ⟨0, .arr 0 16 1⟩),
  (168, ⟨1, .scalar⟩),
  (169, ⟨1, .ik .u8⟩),
  (170, ⟨1, .ik .u8⟩),
  (171, ⟨1, .scalar⟩),
  (172, ⟨1, .scalar⟩),
  (173, ⟨1, .ik .i32⟩),
  (174, ⟨1, .ik .i32⟩),
  (175, ⟨11, .struct [(0, 1), (1, 1), (2, 1), (3, 1), (4, 1), (5, 1), (6, 1), (7, 1), (8, 1), (9, 1), (10, 1)]⟩),
  (176, ⟨11, .struct [(0, 1), (1, 1), (2, 1), (3, 1), (4, 1), (5, 1), (6, 1), (7, 1), (8, 1), (9, 1), (10, 1)]⟩),
  (177, ⟨1, .scalar⟩)]
def ty : Nat → Option TI := lkT tyl
theorem tyOk : TyOk Tryz.prog ty := tyOk_of_list tyl (by kernel_rfl)
def ztl : List (Nat × (List ZK × Nat)) := [(1, ([.fn], 8)),
  (2, ([.int], 8)),
  (3, ([.int], 8)),
  (4, ([.bool], 1)),
  (5, ([.byte], 1)),
  (6, ([.byte], 1)),
  (7, ([.int, .int, .bool, .byte], 24)),
  (8, ([.int, .int, .bool, .byte], 24)),
  (9, ([.str], 16)),
  (10, ([.str], 16)),
  (11, ([.str], 16)),
  (12, ([.u64], 8)),
  (13, ([.str, .u64], 24)),
  (14, ([.str, .u64], 24)),
  (15, ([.ptr], 8)),
  (16, ([.ptr], 8)),
  (17, ([.ptr], 8)),
  (18, ([.ptr], 8)),
  (19, ([.ptr], 8)),
  (22, ([.slice], 24)),
  (23, ([.fn], 8)),
  (24, ([.slice], 24)),
  (25, ([.slice], 24)),
  (26, ([.int, .slice, .slice], 56)),
  (27, ([.int, .slice, .slice], 56)),
  (28, ([.slice], 24)),
  (29, ([.slice], 24)),
  (30, ([.slice, .slice, .slice], 72)),
  (31, ([.slice, .slice, .slice], 72)),
  (33, ([.fn], 8)),
  (34, ([.fn], 8)),
  (36, ([.fn], 8)),
  (38, ([.fn], 8)),
  (40, ([.fn], 8)),
  (42, ([.fn], 8)),
  (43, ([.fn], 8)),
  (44, ([.fn], 8)),
  (45, ([.ptr], 8)),
  (46, ([.fn], 8)),
  (47, ([.fn], 8)),
  (48, ([.fn], 8)),
  (49, ([.ptr], 8)),
  (50, ([.fn], 8)),
  (51, ([.fn], 8)),
  (52, ([.ptr], 8)),
  (53, ([.fn], 8)),
  (54, ([.fn], 8)),
  (55, ([.fn], 8)),
  (56, ([.fn], 8)),
  (57, ([.fn], 8)),
  (59, ([.fn], 8)),
  (60, ([.fn], 8)),
  (61, ([.fn], 8)),
  (62, ([.slice], 24)),
  (63, ([.int, .int, .slice, .slice, .slice, .slice, .slice, .slice, .bool], 168)),
  (64, ([.int, .int, .slice, .slice, .slice, .slice, .slice, .slice, .bool], 168)),
  (65, ([.fn], 8)),
  (66, ([.fn], 8)),
  (67, ([.u64], 8)),
  (68, ([.slice, .int, .u64], 40)),
  (69, ([.slice, .int, .u64], 40)),
  (70, ([.fn], 8)),
  (71, ([.fn], 8)),
  (72, ([.fn], 8)),
  (73, ([.slice], 24)),
  (74, ([.slice], 24)),
  (76, ([.fn], 8)),
  (77, ([.fn], 8)),
  (78, ([.fn], 8)),
  (79, ([.slice], 24)),
  (80, ([.fn], 8)),
  (81, ([.fn], 8)),
  (82, ([.fn], 8)),
  (83, ([.slice], 24)),
  (85, ([.fn], 8)),
  (86, ([.slice, .slice], 48)),
  (87, ([.slice, .slice], 48)),
  (88, ([.fn], 8)),
  (89, ([.fn], 8)),
  (90, ([.fn], 8)),
  (91, ([.fn], 8)),
  (92, ([.fn], 8)),
  (93, ([.fn], 8)),
  (94, ([.fn], 8)),
  (95, ([.fn], 8)),
  (96, ([.fn], 8)),
  (97, ([.fn], 8)),
  (98, ([.int, .int, .int, .int, .int, .int], 48)),
  (99, ([.fn], 8)),
  (100, ([.fn], 8)),
  (101, ([.fn], 8)),
  (102, ([.fn], 8)),
  (103, ([.int, .slice], 32)),
  (104, ([.int, .slice], 32)),
  (105, ([.fn], 8)),
  (106, ([.ptr], 8)),
  (107, ([.fn], 8)),
  (108, ([.fn], 8)),
  (110, ([.fn], 8)),
  (111, ([.fn], 8)),
  (112, ([.fn], 8)),
  (113, ([.int, .int, .int, .int, .int, .int], 48)),
  (114, ([.fn], 8)),
  (115, ([.fn], 8)),
  (116, ([.fn], 8)),
  (117, ([.u64], 8)),
  (118, ([.fn], 8)),
  (119, ([.fn], 8)),
  (120, ([.fn], 8)),
  (121, ([.fn], 8)),
  (122, ([.fn], 8)),
  (123, ([.fn], 8)),
  (124, ([.fn], 8)),
  (125, ([.fn], 8)),
  (126, ([.ptr], 8)),
  (127, ([.fn], 8)),
  (128, ([.fn], 8)),
  (129, ([.ptr], 8)),
  (130, ([.fn], 8)),
  (131, ([.fn], 8)),
  (132, ([.fn], 8)),
  (133, ([.fn], 8)),
  (134, ([.int], 8)),
  (136, ([.fn], 8)),
  (137, ([.fn], 8)),
  (138, ([.fn], 8)),
  (140, ([.fn], 8)),
  (141, ([.fn], 8)),
  (143, ([.fn], 8)),
  (144, ([.fn], 8)),
  (145, ([.fn], 8)),
  (146, ([.fn], 8)),
  (147, ([.ptr], 8)),
  (148, ([.slice], 24)),
  (149, ([.slice], 24)),
  (150, ([.fn], 8)),
  (151, ([.fn], 8)),
  (152, ([.u64], 8)),
  (153, ([.fn], 8)),
  (154, ([.fn], 8)),
  (155, ([.fn], 8)),
  (156, ([.ptr], 8)),
  (157, ([.fn], 8)),
  (158, ([.fn], 8)),
  (159, ([.ptr], 8)),
  (161, ([.fn], 8)),
  (162, ([.fn], 8)),
  (163, ([.ptr, .ptr, .ptr, .str], 40)),
  (164, ([.ptr, .ptr, .ptr, .str], 40)),
  (165, ([], 0)),
  (166, ([], 0)),
  (167, ([], 0)),
  (168, ([.fn], 8)),
  (169, ([.byte], 1)),
  (170, ([.byte], 1)),
  (171, ([.fn], 8)),
  (172, ([.ptr], 8)),
  (177, ([.fn], 8))]
def zt : Nat → Option (List ZK × Nat) := lkZ ztl
theorem ztOk : ZtOk Tryz.prog zt := ztOk_of_list ztl (by kernel_rfl)
theorem mix : Tryz.prog.follows .mixedOrders = true := by kernel_rfl
end Go.Proofs.YtkfmjjoalkoncaaGreat

/-
  The source of choices: what it draws, within bounds. No condition.
-/
namespace Go.Proofs.YtkfmjjoalkoncaaGreat
open Go.AI
set_option maxRecDepth 8000
set_option maxHeartbeats 1600000

def encY (c : UInt8) : List A := [.u8 c]
/-- The source's memory. -/
abbrev srcB (s : Nat) (code : List UInt8) (at_ : Nat) (sd : Int) : Blk := ⟨some s, 69, 3, [.sl (code.map encY), .int (at_ : Int), .raw (.int .u64 sd)]⟩
/-- What a draw hands back, and leaves. -/
def DrawR (s : Nat) (code : List UInt8) (lim : Nat) (p : Int → Prop) : A → Heap → Prop := fun v h' => ∃ r at2 sd, v = .int r ∧ p r ∧ at2 ≤ lim ∧ h' = [srcB s code at2 sd]
theorem o_next (s : Nat) (code : List UInt8) (at_ : Nat) (sd : Int) (ha : at_ ≤ 1000000000) : Does Tryz.prog 62 [.op (some s) 0] [srcB s code at_ sd] (DrawR s code (at_ + 1) (fun r => 0 ≤ r ∧ r ≤ 255)) := by
  refine fn_of_runD tyOk ztOk mix Tryz.func62 rfl (by decide) Tryz.ntmps62 (fun w0 F => ?_)
  change Run _ _ _ _ _ (_ :: F)
  repeat' (first
      | (refine j_go ?_; first
        | refine j_op0 rfl rfl rfl rfl ?_ | (refine j_kIdx rfl ?_; first | refine j_idx rfl rfl rfl rfl rfl (by omega) rfl rfl rfl ?_) | (refine j_kBin rfl ?_; first | refine j_in rfl rfl ⟨by omega, by omega⟩ rfl rfl ?_) | (refine j_kLen rfl ?_; first | refine j_len rfl rfl rfl rfl rfl rfl ?_) | (refine j_kLoad rfl ?_; first | refine j_mload 0 rfl rfl rfl rfl rfl rfl rfl ?_) | (refine j_kStore rfl ?_; first | refine j_store 0 rfl rfl rfl rfl rfl rfl rfl rfl rfl rfl rfl ?_))
      | refine j_nil ?_
      | (refine r_go ?_; first | refine run_seq ?_ | refine run_region ?_ | (refine (run_if rfl (fun hb => ?_) (fun hb => ?_)) <;> first | (exfalso; omega) | skip) | refine run_skip ?_ | refine run_regionD (by kernel_rfl) ?_)
      | refine seqQ_normal ?_)
  · have ha2 : at_ < code.length := by omega
    have hc := UInt8.toNat_lt code[at_]
    skip
    refine j_u64mul rfl rfl rfl rfl rfl rfl ?_
    repeat' (first
      | (refine j_go ?_; first
        | refine j_op0 rfl rfl rfl rfl ?_ | refine j_conv rfl rfl rfl rfl rfl (wrap_u64 (by omega) (by omega)) rfl rfl ?_))
    refine j_u64add rfl rfl rfl rfl rfl rfl ?_
    skip
    refine j_u64add rfl rfl rfl rfl rfl rfl ?_
    repeat' (first
      | (refine j_go ?_; first
        | refine j_op0 rfl rfl rfl rfl ?_ | (refine j_kLen rfl ?_; first | refine j_len rfl rfl rfl rfl rfl rfl ?_) | (refine j_kLoad rfl ?_; first | refine j_mload 0 rfl rfl rfl rfl rfl rfl rfl ?_) | (refine j_kStore rfl ?_; first | refine j_store 0 rfl rfl rfl rfl rfl rfl rfl rfl rfl rfl rfl ?_))
      | refine j_nil ?_
      | (refine r_go ?_; first | refine run_seq ?_ | refine run_region ?_ | (refine (run_if rfl (fun hb => ?_) (fun hb => ?_)) <;> first | (exfalso; omega) | skip) | refine run_ret ?_ | refine run_regionD (by kernel_rfl) ?_)
      | refine seqQ_normal ?_ | refine seqQ_ret ?_)
    exact endD_ret (h1 := [_]) rfl (.cons (.tmp rfl) .nil) (Le.refl _) ⟨_, at_ + 1, _, rfl, ⟨by omega, by omega⟩, Nat.le_refl _, rfl⟩ (.inl rfl)
  · skip
    refine j_u64mul rfl rfl rfl rfl rfl rfl ?_
    repeat' (first
      | (refine j_go ?_; first
        | refine j_op0 rfl rfl rfl rfl ?_ | refine j_conv rfl rfl rfl rfl rfl (wrap_u64 (by omega) (by omega)) rfl rfl ?_))
    refine j_u64add rfl rfl rfl rfl rfl rfl ?_
    skip
    refine j_u64add rfl rfl rfl rfl rfl rfl ?_
    repeat' (first
      | (refine j_go ?_; first
        | refine j_op0 rfl rfl rfl rfl ?_ | (refine j_kLen rfl ?_; first | refine j_len rfl rfl rfl rfl rfl rfl ?_) | (refine j_kLoad rfl ?_; first | refine j_mload 0 rfl rfl rfl rfl rfl rfl rfl ?_) | (refine j_kStore rfl ?_; first | refine j_store 0 rfl rfl rfl rfl rfl rfl rfl rfl rfl rfl rfl ?_))
      | refine j_nil ?_
      | (refine r_go ?_; first | refine run_seq ?_ | refine run_region ?_ | (refine (run_if rfl (fun hb => ?_) (fun hb => ?_)) <;> first | (exfalso; omega) | skip) | refine run_skip ?_ | refine run_regionD (by kernel_rfl) ?_)
      | refine seqQ_normal ?_)
    refine j_u64shr (k := 40) (kk := .u64) rfl rfl rfl (by first | exact .inr rfl | exact .inl rfl) (by omega) rfl rfl ?_
    skip
    refine j_u64and rfl rfl rfl rfl rfl rfl (fun c hc => ?_)
    skip
    refine j_u2i rfl rfl rfl rfl rfl hc rfl rfl ?_
    repeat' (first
      | (refine j_go ?_; first
        | refine j_op0 rfl rfl rfl rfl ?_)
      | refine j_nil ?_
      | (refine r_go ?_; first | refine run_ret ?_)
      | refine seqQ_normal ?_)
    exact endD_ret (h1 := [_]) rfl (.cons (.tmp rfl) .nil) (Le.refl _) ⟨c, at_ + 1, _, rfl, hc, Nat.le_refl _, rfl⟩ (.inl rfl)
theorem DrawR.lim {s : Nat} {code : List UInt8} {l l' : Nat} {p q : Int → Prop} (hl : l ≤ l') (hp : ∀ r, p r → q r) : ∀ v h', DrawR s code l p v h' → DrawR s code l' q v h' := fun _ _ ⟨r, a, sd, h1, h2, h3, h4⟩ => ⟨r, a, sd, h1, hp r h2, Nat.le_trans h3 hl, h4⟩
theorem o_pick (s : Nat) (code : List UInt8) (at_ : Nat) (sd m : Int) (ha : at_ ≤ 1000000) (hm : m ≤ 100000) : Does Tryz.prog 33 [.op (some s) 0, .int m] [srcB s code at_ sd] (DrawR s code (at_ + 2) (fun r => 0 ≤ r ∧ (r < m ∨ r = 0 ∧ m ≤ 1))) := by
  refine fn_of_runD tyOk ztOk mix Tryz.func33 rfl (by decide) Tryz.ntmps33 (fun w0 F => ?_)
  change Run _ _ _ _ _ (_ :: F)
  repeat' (first
      | (refine j_go ?_; first
        | refine j_op0 rfl rfl rfl rfl ?_)
      | refine j_nil ?_
      | (refine r_go ?_; first | refine run_seq ?_ | refine run_region ?_ | (refine (run_if rfl (fun hb => ?_) (fun hb => ?_)) <;> first | (exfalso; omega) | skip) | refine run_ret ?_ | refine run_skip ?_)
      | refine seqQ_normal ?_ | refine seqQ_ret ?_)
  · exact endD_ret (h1 := [_]) rfl (.cons (.tmp rfl) .nil) (Le.refl _) ⟨0, at_, sd, rfl, ⟨by omega, by omega⟩, by omega, rfl⟩ (.inl rfl)
  refine j_kCall rfl rfl rfl rfl ?_
  refine jcp F (o_next s code at_ sd (by omega)) (List.Perm.refl _) (LeL.refl _) rfl rfl (fun v h1 hR => ?_)
  obtain ⟨r, a1, sd1, rfl, hr, ha1, rfl⟩ := hR
  repeat' (first
      | (refine j_go ?_; first
        | refine j_op0 rfl rfl rfl rfl ?_ | (refine j_kBin rfl ?_; first | refine j_in rfl rfl ⟨by omega, by omega⟩ rfl rfl ?_ | refine j_rem rfl rfl rfl rfl (by omega) rfl rfl ?_))
      | refine j_nil ?_
      | (refine r_go ?_; first | refine run_seq ?_ | refine run_region ?_ | (refine (run_if rfl (fun hb => ?_) (fun hb => ?_)) <;> first | (exfalso; omega) | skip) | refine run_ret ?_ | refine run_skip ?_)
      | refine seqQ_normal ?_)
  · refine j_kCall rfl rfl rfl rfl ?_
    refine jcp F (o_next s code a1 sd1 (by omega)) (List.Perm.refl _) (LeL.refl _) rfl rfl (fun v h1 hR => ?_)
    obtain ⟨r2, a2, sd2, rfl, hr2, ha2, rfl⟩ := hR
    repeat' (first
      | (refine j_go ?_; first
        | refine j_op0 rfl rfl rfl rfl ?_ | (refine j_kBin rfl ?_; first | refine j_in rfl rfl ⟨by omega, by omega⟩ rfl rfl ?_ | refine j_rem rfl rfl rfl rfl (by omega) rfl rfl ?_))
      | refine j_nil ?_
      | (refine r_go ?_; first | refine run_seq ?_ | refine run_region ?_ | refine run_ret ?_)
      | refine seqQ_normal ?_)
    have q1 := Int.emod_nonneg (r * 256 + r2) (b := m) (by omega)
    have q2 := Int.emod_lt_of_pos (r * 256 + r2) (b := m) (by omega)
    exact endD_ret (h1 := [_]) rfl (.cons (.tmp rfl) .nil) (Le.refl _) ⟨_, a2, sd2, rfl, ⟨q1, .inl q2⟩, by omega, rfl⟩ (.inl rfl)
  · have q1 := Int.emod_nonneg r (b := m) (by omega)
    have q2 := Int.emod_lt_of_pos r (b := m) (by omega)
    exact endD_ret (h1 := [_]) rfl (.cons (.tmp rfl) .nil) (Le.refl _) ⟨_, a1, sd1, rfl, ⟨q1, .inl q2⟩, by omega, rfl⟩ (.inl rfl)
theorem o_one (s : Nat) (code : List UInt8) (at_ : Nat) (sd m : Int) (ha : at_ ≤ 1000000) (hm : m ≤ 100000) : Does Tryz.prog 35 [.op (some s) 0, .int m] [srcB s code at_ sd] (fun v h' => ∃ b at2 sd2, v = .raw (.bool b) ∧ at2 ≤ at_ + 2 ∧ h' = [srcB s code at2 sd2]) := by
  refine fn_of_runD tyOk ztOk mix Tryz.func35 rfl (by decide) Tryz.ntmps35 (fun w0 F => ?_)
  change Run _ _ _ _ _ (_ :: F)
  repeat' (first
      | (refine j_go ?_; first
        | refine j_op0 rfl rfl rfl rfl ?_)
      | refine j_nil ?_
      | (refine r_go ?_; first | refine run_seq ?_ | refine run_region ?_)
      | refine seqQ_normal ?_)
  refine j_kCall rfl rfl rfl rfl ?_
  refine jcp F (o_pick s code at_ sd m ha hm) (List.Perm.refl _) (LeL.refl _) rfl rfl (fun v h1 hR => ?_)
  obtain ⟨r, a1, sd1, rfl, hr, ha1, rfl⟩ := hR
  repeat' (first
      | (refine j_go ?_; first
        | refine j_op0 rfl rfl rfl rfl ?_)
      | refine j_nil ?_
      | (refine r_go ?_; first | refine run_ret ?_)
      | refine seqQ_normal ?_)
  exact endD_ret (h1 := [_]) rfl (.cons (.tmp rfl) .nil) (Le.refl _) ⟨_, a1, sd1, rfl, ha1, rfl⟩ (.inl rfl)
theorem o_from (code : List UInt8) : Does Tryz.prog 15 [.sl (code.map encY)] [] (fun v h' => ∃ s, v = .op (some s) 0 ∧ h' = [srcB s code 0 0]) := by
  refine fn_of_runD tyOk ztOk mix Tryz.func15 rfl (by decide) Tryz.ntmps15 (fun w0 F => ?_)
  change Run _ _ _ _ _ F
  repeat' (first
      | (refine j_go ?_; first
        | refine j_op0 rfl rfl rfl rfl ?_ | refine j_build rfl rfl rfl rfl rfl rfl rfl ?_)
      | refine j_nil ?_
      | (refine r_go ?_; first | refine run_seq ?_ | refine run_region ?_)
      | refine seqQ_normal ?_)
  refine j_boxM rfl rfl rfl rfl rfl rfl (fun b1 => ?_)
  repeat' (first
      | (refine j_go ?_; first
        | refine j_op0 rfl rfl rfl rfl ?_)
      | refine j_nil ?_
      | (refine r_go ?_; first | refine run_ret ?_)
      | refine seqQ_normal ?_)
  exact endD_ret (h1 := [_]) rfl (.cons (.tmp rfl) .nil) (Le.refl _) ⟨b1, rfl, rfl⟩ (.inl rfl)
end Go.Proofs.YtkfmjjoalkoncaaGreat

/-
  The helpers of the laws over numbers, lists of numbers and lists of lists: sizes, copies, comparisons. No condition but that the sizes are at most 1048576.
-/
namespace Go.Proofs.YtkfmjjoalkoncaaGreat
open Go.AI
set_option maxRecDepth 8000
end Go.Proofs.YtkfmjjoalkoncaaGreat

/-
  Small functions of the reference and the program over numbers and lists of numbers: bounds, rising, membership, equality. No condition.
-/
namespace Go.Proofs.YtkfmjjoalkoncaaGreat
open Go.AI
set_option maxRecDepth 8000
set_option maxHeartbeats 1600000

theorem c_l00In (n low high : Int) : Gives Tryz.prog 87 [.int n, .int low, .int high] (.raw (.bool (dec (low ≤ n ∧ n ≤ high)))) := by
  refine fn_of_run tyOk ztOk mix Tryz.func87 rfl (by decide) Tryz.ntmps87 (fun w0 h => ?_)
  repeat' (first
      | (refine j_go ?_; first
        | refine j_op0 rfl rfl rfl rfl ?_ | refine j_off rfl rfl rfl ?_ | (refine j_kGuard rfl ?_; first | (refine (j_if rfl rfl rfl (fun hb => ?_) (fun hb => ?_)) <;> first | (exfalso; omega) | skip)))
      | refine j_nil ?_
      | (refine r_go ?_; first | refine run_seq ?_ | refine run_region ?_ | refine run_ret ?_)
      | refine seqQ_normal ?_)
  all_goals first | exact end1 rfl (by first | exact List.Sublist.refl _ | exact sub1 | exact sub2 | exact sub3) (rbT (by omega)) (.inl rfl) | exact end1 rfl (by first | exact List.Sublist.refl _ | exact sub1 | exact sub2 | exact sub3) (rbF (by omega)) (.inl rfl) | exact end1 rfl (List.Sublist.refl _) (rb (by simp [dec_eq]; omega)) (.inl rfl)

theorem c_inRange (n low high : Int) : Gives Tryz.prog 54 [.int n, .int low, .int high] (.raw (.bool (dec (low ≤ n ∧ n ≤ high)))) := by
  refine fn_of_run tyOk ztOk mix Tryz.func54 rfl (by decide) Tryz.ntmps54 (fun w0 h => ?_)
  repeat' (first
      | (refine j_go ?_; first
        | refine j_op0 rfl rfl rfl rfl ?_ | refine j_off rfl rfl rfl ?_ | (refine j_kGuard rfl ?_; first | (refine (j_if rfl rfl rfl (fun hb => ?_) (fun hb => ?_)) <;> first | (exfalso; omega) | skip)))
      | refine j_nil ?_
      | (refine r_go ?_; first | refine run_seq ?_ | refine run_region ?_ | refine run_ret ?_)
      | refine seqQ_normal ?_)
  all_goals first | exact end1 rfl (by first | exact List.Sublist.refl _ | exact sub1 | exact sub2 | exact sub3) (rbT (by omega)) (.inl rfl) | exact end1 rfl (by first | exact List.Sublist.refl _ | exact sub1 | exact sub2 | exact sub3) (rbF (by omega)) (.inl rfl) | exact end1 rfl (List.Sublist.refl _) (rb (by simp [dec_eq]; omega)) (.inl rfl)

end Go.Proofs.YtkfmjjoalkoncaaGreat

/-
  Library functions over lists of numbers and lists of lists: the first element of a kind. No condition.
-/
namespace Go.Proofs.YtkfmjjoalkoncaaGreat
open Go.AI
set_option maxRecDepth 8000
set_option maxHeartbeats 1600000

theorem c_ixfI (f : FuncId) (caps : List A) (r : Int → Prop) (l : List (Int)) (hf : ∀ x ∈ l, Gives Tryz.prog f (.int x :: caps) (.raw (.bool (dec (r x))))) : Gives Tryz.prog 59 [.sl (l.map Go.AI.encI), .fn f caps] (.int (fIdx r l)) := by
  refine fn_of_run tyOk ztOk mix Tryz.func59 rfl (by decide) Tryz.ntmps59 (fun w0 h => ?_)
  refine run_len (t := 0) rfl (fun hl => ?_)
  rw [List.length_map] at hl
  repeat' (first
      | (refine j_go ?_; first
        | refine j_op0 rfl rfl rfl rfl ?_ | (refine j_kLen rfl ?_; first | refine j_len rfl rfl rfl rfl rfl rfl ?_))
      | refine j_nil ?_
      | (refine r_go ?_; first | refine run_seq ?_ | refine run_region ?_ | refine run_block ?_)
      | refine seqQ_normal ?_)
  refine run_loop (fun k : Nat => [(0, .sl (l.map Go.AI.encI)), (1, .fn f caps), (7, .int l.length), (8, .int (k : Int))]) (fun _ => _) (fun k => k ≤ l.length ∧ (∀ i (h : i < l.length), i < k → ¬ r l[i])) (fun k => l.length - k) 0 ⟨rfl, rfl, rfl, rfl, trivial⟩ rfl ⟨Nat.zero_le _, by first | (intros; omega) | (simp; done) | rfl | trivial | exact ⟨by simp [sumF], by intros; omega⟩ | exact ⟨by omega, by simp⟩⟩ (fun k ⟨kl, kp⟩ => ?_)
  repeat' (first
      | (refine j_go ?_; first
        | refine j_op0 rfl rfl rfl rfl ?_ | (refine j_kIdx rfl ?_; first | refine j_idx rfl rfl rfl rfl rfl (by omega) rfl rfl rfl ?_) | (refine j_kBin rfl ?_; first | refine j_in rfl rfl ⟨by omega, by omega⟩ rfl rfl ?_) | (refine j_kCall rfl rfl rfl rfl ?_; first | refine jc (hf _ (List.getElem_mem _)) (LeL.refl _) rfl rfl ?_))
      | refine j_nil ?_
      | (refine r_go ?_; first | refine run_seq ?_ | refine run_region ?_ | (refine (run_if rfl (fun hb => ?_) (fun hb => ?_)) <;> first | (exfalso; omega) | skip) | refine run_block ?_ | refine run_ret ?_ | refine run_exit ?_ | refine run_skip ?_)
      | refine seqQ_normal ?_ | refine seqQ_ret ?_ | refine seqQ_exit ?_ | refine blockQ_normal ?_ | refine blockQ_ret ?_ | refine blockQ_eq ?_ | refine loopQ_ret ?_ | refine loopQ_exit ?_)
  · exact end1 rfl (List.Sublist.refl _) (ai (fIdx_at (by omega) hb kp).symm) (.inl rfl)
  · exact loopQ_nextD (k + 1) ⟨by omega, all_step kp (fun _ => hb)⟩ (by omega) (by first | exact List.Sublist.refl _ | exact sub1 | exact sub2 | exact sub3) ⟨rfl, rfl, rfl, nx _, trivial⟩
  · exact end1 rfl (List.Sublist.refl _) (ai (fIdx_none (fun i h => kp i h (by omega))).symm) (.inl rfl)

theorem c_cfI (f : FuncId) (caps : List A) (r : Int → Prop) (l : List (Int)) (hf : ∀ x ∈ l, Gives Tryz.prog f (.int x :: caps) (.raw (.bool (dec (r x))))) : Gives Tryz.prog 26 [.sl (l.map Go.AI.encI), .fn f caps] (.raw (.bool (dec (∃ x ∈ l, r x)))) := by
  refine fn_of_run tyOk ztOk mix Tryz.func26 rfl (by decide) Tryz.ntmps26 (fun w0 h => ?_)
  repeat' (first
      | (refine j_go ?_; first
        | refine j_op0 rfl rfl rfl rfl ?_ | (refine j_kCall rfl rfl rfl rfl ?_; first | refine jc (c_ixfI _ _ r _ hf) (LeL.refl _) rfl rfl ?_))
      | refine j_nil ?_
      | (refine r_go ?_; first | refine run_seq ?_ | refine run_region ?_ | refine run_ret ?_)
      | refine seqQ_normal ?_)
  exact end1 rfl (List.Sublist.refl _) (rbD (fIdx_ex r l)) (.inl rfl)
theorem c_ixfS (f : FuncId) (caps : List A) (r : List Int → Prop) (l : List (List Int)) (hf : ∀ x ∈ l, Gives Tryz.prog f (.sl (x.map Go.AI.encI) :: caps) (.raw (.bool (dec (r x))))) : Gives Tryz.prog 83 [.sl (l.map (encS Go.AI.encI)), .fn f caps] (.int (fIdx r l)) := by
  refine fn_of_run tyOk ztOk mix Tryz.func83 rfl (by decide) Tryz.ntmps83 (fun w0 h => ?_)
  refine run_len (t := 0) rfl (fun hl => ?_)
  rw [List.length_map] at hl
  repeat' (first
      | (refine j_go ?_; first
        | refine j_op0 rfl rfl rfl rfl ?_ | (refine j_kLen rfl ?_; first | refine j_len rfl rfl rfl rfl rfl rfl ?_))
      | refine j_nil ?_
      | (refine r_go ?_; first | refine run_seq ?_ | refine run_region ?_ | refine run_block ?_)
      | refine seqQ_normal ?_)
  refine run_loop (fun k : Nat => [(0, .sl (l.map (encS Go.AI.encI))), (1, .fn f caps), (7, .int l.length), (8, .int (k : Int))]) (fun _ => _) (fun k => k ≤ l.length ∧ (∀ i (h : i < l.length), i < k → ¬ r l[i])) (fun k => l.length - k) 0 ⟨rfl, rfl, rfl, rfl, trivial⟩ rfl ⟨Nat.zero_le _, by first | (intros; omega) | (simp; done) | rfl | trivial | exact ⟨by simp [sumF], by intros; omega⟩ | exact ⟨by omega, by simp⟩⟩ (fun k ⟨kl, kp⟩ => ?_)
  repeat' (first
      | (refine j_go ?_; first
        | refine j_op0 rfl rfl rfl rfl ?_ | (refine j_kIdx rfl ?_; first | refine j_idx rfl rfl rfl rfl rfl (by omega) rfl rfl rfl ?_) | (refine j_kBin rfl ?_; first | refine j_in rfl rfl ⟨by omega, by omega⟩ rfl rfl ?_) | (refine j_kCall rfl rfl rfl rfl ?_; first | refine jc (hf _ (List.getElem_mem _)) (LeL.refl _) rfl rfl ?_))
      | refine j_nil ?_
      | (refine r_go ?_; first | refine run_seq ?_ | refine run_region ?_ | (refine (run_if rfl (fun hb => ?_) (fun hb => ?_)) <;> first | (exfalso; omega) | skip) | refine run_block ?_ | refine run_ret ?_ | refine run_exit ?_ | refine run_skip ?_)
      | refine seqQ_normal ?_ | refine seqQ_ret ?_ | refine seqQ_exit ?_ | refine blockQ_normal ?_ | refine blockQ_ret ?_ | refine blockQ_eq ?_ | refine loopQ_ret ?_ | refine loopQ_exit ?_)
  · exact end1 rfl (List.Sublist.refl _) (ai (fIdx_at (by omega) hb kp).symm) (.inl rfl)
  · exact loopQ_nextD (k + 1) ⟨by omega, all_step kp (fun _ => hb)⟩ (by omega) (by first | exact List.Sublist.refl _ | exact sub1 | exact sub2 | exact sub3) ⟨rfl, rfl, rfl, nx _, trivial⟩
  · exact end1 rfl (List.Sublist.refl _) (ai (fIdx_none (fun i h => kp i h (by omega))).symm) (.inl rfl)

theorem c_cfS (f : FuncId) (caps : List A) (r : List Int → Prop) (l : List (List Int)) (hf : ∀ x ∈ l, Gives Tryz.prog f (.sl (x.map Go.AI.encI) :: caps) (.raw (.bool (dec (r x))))) : Gives Tryz.prog 56 [.sl (l.map (encS Go.AI.encI)), .fn f caps] (.raw (.bool (dec (∃ x ∈ l, r x)))) := by
  refine fn_of_run tyOk ztOk mix Tryz.func56 rfl (by decide) Tryz.ntmps56 (fun w0 h => ?_)
  repeat' (first
      | (refine j_go ?_; first
        | refine j_op0 rfl rfl rfl rfl ?_ | (refine j_kCall rfl rfl rfl rfl ?_; first | refine jc (c_ixfS _ _ r _ hf) (LeL.refl _) rfl rfl ?_))
      | refine j_nil ?_
      | (refine r_go ?_; first | refine run_seq ?_ | refine run_region ?_ | refine run_ret ?_)
      | refine seqQ_normal ?_)
  exact end1 rfl (List.Sublist.refl _) (rbD (fIdx_ex r l)) (.inl rfl)

end Go.Proofs.YtkfmjjoalkoncaaGreat

/-
  The data of the laws' theme 2, as structures, and the helpers of the laws over them: sizes, copies, comparisons. No condition but that the sizes are at most 1048576.
-/
namespace Go.Proofs.YtkfmjjoalkoncaaGreat
open Go.AI
set_option maxRecDepth 8000

structure Into where
  cell : Int
  bag : List Int
  deriving DecidableEq, Inhabited
def encInto (x : Into) : List A := [.int x.cell, .sl (x.bag.map Go.AI.encI)]
/-- What its size tells of it. -/
structure OkInto (x : Into) : Prop where
  bag : x.bag.length ≤ 1048576
structure Rule where
  cell : Int
  rank : Int
  need : List Int
  have_ : List Int
  lack : List Int
  here : List Int
  out : List Int
  into : List Into
  melts : Bool
  deriving DecidableEq, Inhabited
def encRule (x : Rule) : List A := [.int x.cell, .int x.rank, .sl (x.need.map Go.AI.encI), .sl (x.have_.map Go.AI.encI), .sl (x.lack.map Go.AI.encI), .sl (x.here.map Go.AI.encI), .sl (x.out.map Go.AI.encI), .sl (x.into.map encInto), .raw (.bool x.melts)]
/-- What its size tells of it. -/
structure OkRule (x : Rule) : Prop where
  need : x.need.length ≤ 1048576
  have_ : x.have_.length ≤ 1048576
  lack : x.lack.length ≤ 1048576
  here : x.here.length ≤ 1048576
  out : x.out.length ≤ 1048576
  into : x.into.length ≤ 1048576 ∧ ∀ r ∈ x.into, OkInto r
structure System where
  kinds : Int
  parents : List Int
  rules : List Rule
  deriving DecidableEq, Inhabited
def encSystem (x : System) : List A := [.int x.kinds, .sl (x.parents.map Go.AI.encI), .sl (x.rules.map encRule)]
/-- What its size tells of it. -/
structure OkSystem (x : System) : Prop where
  parents : x.parents.length ≤ 1048576
  rules : x.rules.length ≤ 1048576 ∧ ∀ r ∈ x.rules, OkRule r
structure State where
  alive : List Bool
  bags : List (List Int)
  around : List Int
  deriving DecidableEq, Inhabited
def encState (x : State) : List A := [.sl (x.alive.map encB), .sl (x.bags.map (encS Go.AI.encI)), .sl (x.around.map Go.AI.encI)]
/-- What its size tells of it. -/
structure OkState (x : State) : Prop where
  alive : x.alive.length ≤ 1048576
  bags : x.bags.length ≤ 1048576 ∧ ∀ r ∈ x.bags, r.length ≤ 1048576
  around : x.around.length ≤ 1048576
end Go.Proofs.YtkfmjjoalkoncaaGreat

/-
  Library functions over lists of rules and of what is put into cells: the first element of a kind. No condition.
-/
namespace Go.Proofs.YtkfmjjoalkoncaaGreat
open Go.AI
set_option maxRecDepth 8000
set_option maxHeartbeats 1600000


theorem c_ixfN (f : FuncId) (caps : List A) (r : Into → Prop) (l : List (Into)) (hf : ∀ x ∈ l, Gives Tryz.prog f (.agg (encInto x) :: caps) (.raw (.bool (dec (r x))))) : Gives Tryz.prog 108 [.sl (l.map encInto), .fn f caps] (.int (fIdx r l)) := by
  refine fn_of_run tyOk ztOk mix Tryz.func108 rfl (by decide) Tryz.ntmps108 (fun w0 h => ?_)
  refine run_len (t := 0) rfl (fun hl => ?_)
  rw [List.length_map] at hl
  repeat' (first
      | (refine j_go ?_; first
        | refine j_op0 rfl rfl rfl rfl ?_ | (refine j_kLen rfl ?_; first | refine j_len rfl rfl rfl rfl rfl rfl ?_))
      | refine j_nil ?_
      | (refine r_go ?_; first | refine run_seq ?_ | refine run_region ?_ | refine run_block ?_)
      | refine seqQ_normal ?_)
  refine run_loop (fun k : Nat => [(0, .sl (l.map encInto)), (1, .fn f caps), (7, .int l.length), (8, .int (k : Int))]) (fun _ => _) (fun k => k ≤ l.length ∧ (∀ i (h : i < l.length), i < k → ¬ r l[i])) (fun k => l.length - k) 0 ⟨rfl, rfl, rfl, rfl, trivial⟩ rfl ⟨Nat.zero_le _, by first | (intros; omega) | (simp; done) | rfl | trivial | exact ⟨by simp [sumF], by intros; omega⟩ | exact ⟨by omega, by simp⟩⟩ (fun k ⟨kl, kp⟩ => ?_)
  repeat' (first
      | (refine j_go ?_; first
        | refine j_op0 rfl rfl rfl rfl ?_ | (refine j_kIdx rfl ?_; first | refine j_idx rfl rfl rfl rfl rfl (by omega) rfl rfl rfl ?_) | (refine j_kBin rfl ?_; first | refine j_in rfl rfl ⟨by omega, by omega⟩ rfl rfl ?_) | (refine j_kCall rfl rfl rfl rfl ?_; first | refine jc (hf _ (List.getElem_mem _)) (LeL.refl _) rfl rfl ?_))
      | refine j_nil ?_
      | (refine r_go ?_; first | refine run_seq ?_ | refine run_region ?_ | (refine (run_if rfl (fun hb => ?_) (fun hb => ?_)) <;> first | (exfalso; omega) | skip) | refine run_block ?_ | refine run_ret ?_ | refine run_exit ?_ | refine run_skip ?_)
      | refine seqQ_normal ?_ | refine seqQ_ret ?_ | refine seqQ_exit ?_ | refine blockQ_normal ?_ | refine blockQ_ret ?_ | refine blockQ_eq ?_ | refine loopQ_ret ?_ | refine loopQ_exit ?_)
  · exact end1 rfl (List.Sublist.refl _) (ai (fIdx_at (by omega) hb kp).symm) (.inl rfl)
  · exact loopQ_nextD (k + 1) ⟨by omega, all_step kp (fun _ => hb)⟩ (by omega) (by first | exact List.Sublist.refl _ | exact sub1 | exact sub2 | exact sub3) ⟨rfl, rfl, rfl, nx _, trivial⟩
  · exact end1 rfl (List.Sublist.refl _) (ai (fIdx_none (fun i h => kp i h (by omega))).symm) (.inl rfl)

theorem c_cfN (f : FuncId) (caps : List A) (r : Into → Prop) (l : List (Into)) (hf : ∀ x ∈ l, Gives Tryz.prog f (.agg (encInto x) :: caps) (.raw (.bool (dec (r x))))) : Gives Tryz.prog 84 [.sl (l.map encInto), .fn f caps] (.raw (.bool (dec (∃ x ∈ l, r x)))) := by
  refine fn_of_run tyOk ztOk mix Tryz.func84 rfl (by decide) Tryz.ntmps84 (fun w0 h => ?_)
  repeat' (first
      | (refine j_go ?_; first
        | refine j_op0 rfl rfl rfl rfl ?_ | (refine j_kCall rfl rfl rfl rfl ?_; first | refine jc (c_ixfN _ _ r _ hf) (LeL.refl _) rfl rfl ?_))
      | refine j_nil ?_
      | (refine r_go ?_; first | refine run_seq ?_ | refine run_region ?_ | refine run_ret ?_)
      | refine seqQ_normal ?_)
  exact end1 rfl (List.Sublist.refl _) (rbD (fIdx_ex r l)) (.inl rfl)

end Go.Proofs.YtkfmjjoalkoncaaGreat
