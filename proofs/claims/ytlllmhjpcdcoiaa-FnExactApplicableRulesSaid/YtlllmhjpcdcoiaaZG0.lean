/-
  The types of this seat's program, as the walk over plain data wants them. No condition.
-/
import Derived.Test.YtlllmhjpcdcoiaaZRun
import Derived.Test.YtlllmhjpcdcoiaaChecked
import Derived.Test.YtlllmhjpcdcoiaaZOpen
import Derived.Test.YtlllmhjpcdcoiaaZOP
namespace Go.Proofs.Ytlllmhjpcdcoiaa
open Go.AI
def tyl : List (Nat × TI) := [(1, ⟨1, .scalar⟩),
  (2, ⟨1, .ik .i64⟩),
  (3, ⟨1, .ik .i64⟩),
  (4, ⟨1, .bool⟩),
  (5, ⟨1, .ik .u8⟩),
  (6, ⟨1, .ik .u8⟩),
  (7, ⟨4, .struct [(0, 1), (1, 1), (2, 1), (3, 1)]⟩),
  (8, ⟨4, .struct [(0, 1), (1, 1), (2, 1), (3, 1)]⟩),
  (9, ⟨1, .str⟩),
  (10, ⟨1, .str⟩),
  (11, ⟨1, .str⟩),
  (12, ⟨1, .ik .u64⟩),
  (13, ⟨2, .struct [(0, 1), (1, 1)]⟩),
  (14, ⟨2, .struct [(0, 1), (1, 1)]⟩),
  (15, ⟨1, .scalar⟩),
  (16, ⟨1, .scalar⟩),
  (17, ⟨1, .scalar⟩),
  (18, ⟨1, .struct [(0, 1)]⟩),
  (19, ⟨1, .struct [(0, 1)]⟩),
  (21, ⟨1, .ik .i32⟩),
  (22, ⟨1, .slice 2 1⟩),
  (23, ⟨1, .slice 67 9⟩),
  (24, ⟨3, .struct [(0, 1), (1, 1), (2, 1)]⟩),
  (25, ⟨3, .struct [(0, 1), (1, 1), (2, 1)]⟩),
  (26, ⟨1, .slice 4 1⟩),
  (27, ⟨1, .slice 22 1⟩),
  (28, ⟨3, .struct [(0, 1), (1, 1), (2, 1)]⟩),
  (29, ⟨3, .struct [(0, 1), (1, 1), (2, 1)]⟩),
  (30, ⟨1, .scalar⟩),
  (31, ⟨1, .scalar⟩),
  (33, ⟨1, .scalar⟩),
  (34, ⟨1, .slice 72 9⟩),
  (35, ⟨3, .struct [(0, 1), (1, 1), (2, 1)]⟩),
  (36, ⟨3, .struct [(0, 1), (1, 1), (2, 1)]⟩),
  (37, ⟨1, .scalar⟩),
  (38, ⟨3, .struct [(0, 1), (1, 1), (2, 1)]⟩),
  (39, ⟨1, .scalar⟩),
  (40, ⟨1, .scalar⟩),
  (41, ⟨1, .scalar⟩),
  (42, ⟨1, .scalar⟩),
  (43, ⟨1, .scalar⟩),
  (44, ⟨1, .scalar⟩),
  (45, ⟨1, .scalar⟩),
  (46, ⟨1, .scalar⟩),
  (47, ⟨1, .scalar⟩),
  (48, ⟨1, .scalar⟩),
  (49, ⟨1, .scalar⟩),
  (50, ⟨1, .scalar⟩),
  (51, ⟨1, .scalar⟩),
  (52, ⟨1, .scalar⟩),
  (53, ⟨1, .scalar⟩),
  (54, ⟨1, .scalar⟩),
  (55, ⟨1, .scalar⟩),
  (56, ⟨1, .scalar⟩),
  (57, ⟨1, .scalar⟩),
  (58, ⟨1, .scalar⟩),
  (59, ⟨1, .scalar⟩),
  (60, ⟨1, .scalar⟩),
  (61, ⟨1, .scalar⟩),
  (62, ⟨1, .scalar⟩),
  (63, ⟨1, .scalar⟩),
  (64, ⟨1, .scalar⟩),
  (65, ⟨1, .slice 101 2⟩),
  (66, ⟨9, .struct [(0, 1), (1, 1), (2, 1), (3, 1), (4, 1), (5, 1), (6, 1), (7, 1), (8, 1)]⟩),
  (67, ⟨9, .struct [(0, 1), (1, 1), (2, 1), (3, 1), (4, 1), (5, 1), (6, 1), (7, 1), (8, 1)]⟩),
  (68, ⟨1, .scalar⟩),
  (69, ⟨1, .scalar⟩),
  (70, ⟨1, .slice 87 2⟩),
  (71, ⟨9, .struct [(0, 1), (1, 1), (2, 1), (3, 1), (4, 1), (5, 1), (6, 1), (7, 1), (8, 1)]⟩),
  (72, ⟨9, .struct [(0, 1), (1, 1), (2, 1), (3, 1), (4, 1), (5, 1), (6, 1), (7, 1), (8, 1)]⟩),
  (73, ⟨1, .scalar⟩),
  (74, ⟨1, .scalar⟩),
  (75, ⟨1, .scalar⟩),
  (76, ⟨1, .scalar⟩),
  (77, ⟨1, .scalar⟩),
  (78, ⟨1, .scalar⟩),
  (79, ⟨6, .arr 6 2 1⟩),
  (80, ⟨1, .scalar⟩),
  (81, ⟨1, .scalar⟩),
  (82, ⟨1, .scalar⟩),
  (83, ⟨1, .scalar⟩),
  (84, ⟨1, .scalar⟩),
  (85, ⟨1, .scalar⟩),
  (86, ⟨2, .struct [(0, 1), (1, 1)]⟩),
  (87, ⟨2, .struct [(0, 1), (1, 1)]⟩),
  (88, ⟨1, .scalar⟩),
  (89, ⟨1, .scalar⟩),
  (90, ⟨1, .scalar⟩),
  (91, ⟨6, .arr 6 3 1⟩),
  (92, ⟨1, .scalar⟩),
  (93, ⟨1, .scalar⟩),
  (94, ⟨1, .scalar⟩),
  (95, ⟨1, .scalar⟩),
  (96, ⟨1, .scalar⟩),
  (97, ⟨1, .scalar⟩),
  (98, ⟨1, .scalar⟩),
  (99, ⟨1, .scalar⟩),
  (100, ⟨1, .scalar⟩),
  (101, ⟨2, .struct [(0, 1), (1, 1)]⟩),
  (102, ⟨1, .scalar⟩),
  (103, ⟨1, .scalar⟩),
  (104, ⟨1, .scalar⟩),
  (105, ⟨1, .scalar⟩),
  (106, ⟨1, .scalar⟩),
  (107, ⟨1, .scalar⟩),
  (108, ⟨1, .scalar⟩),
  (109, ⟨1, .scalar⟩),
  (110, ⟨1, .scalar⟩),
  (111, ⟨4, .struct [(0, 1), (1, 1), (2, 1), (3, 1)]⟩),
  (112, ⟨4, .struct [(0, 1), (1, 1), (2, 1), (3, 1)]⟩),
  (113, ⟨0, .arr 0 16 1⟩),
  (116, ⟨1, .scalar⟩),
  (117, ⟨1, .ik .u32⟩),
  (118, ⟨1, .ik .u8⟩),
  (119, ⟨1, .ik .u8⟩),
  (120, ⟨1, .scalar⟩),
  (121, ⟨1, .scalar⟩),
  (122, ⟨1, .ik .i32⟩),
  (123, ⟨1, .ik .i32⟩),
  (124, ⟨11, .struct [(0, 1), (1, 1), (2, 1), (3, 1), (4, 1), (5, 1), (6, 1), (7, 1), (8, 1), (9, 1), (10, 1)]⟩),
  (125, ⟨11, .struct [(0, 1), (1, 1), (2, 1), (3, 1), (4, 1), (5, 1), (6, 1), (7, 1), (8, 1), (9, 1), (10, 1)]⟩),
  (126, ⟨1, .scalar⟩)]
def ty : Nat → Option TI := lkT tyl
theorem tyOk : TyOk Try.prog ty := tyOk_of_list tyl (by kernel_rfl)
def ztl : List (Nat × (List ZK × Nat)) := [(1, ([.fn], 8)),
  (2, ([.int], 8)),
  (3, ([.int], 8)),
  (4, ([.bool], 1)),
  (5, ([.byte], 1)),
  (6, ([.byte], 1)),
  (7, ([.int, .int, .bool, .byte], 24)),
  (8, ([.int, .int, .bool, .byte], 24)),
  (9, ([.str], 16)),
  (10, ([.str], 16)),
  (11, ([.str], 16)),
  (12, ([.u64], 8)),
  (13, ([.str, .u64], 24)),
  (14, ([.str, .u64], 24)),
  (15, ([.ptr], 8)),
  (16, ([.ptr], 8)),
  (17, ([.ptr], 8)),
  (18, ([.ptr], 8)),
  (19, ([.ptr], 8)),
  (22, ([.slice], 24)),
  (23, ([.slice], 24)),
  (24, ([.int, .slice, .slice], 56)),
  (25, ([.int, .slice, .slice], 56)),
  (26, ([.slice], 24)),
  (27, ([.slice], 24)),
  (28, ([.slice, .slice, .slice], 72)),
  (29, ([.slice, .slice, .slice], 72)),
  (30, ([.fn], 8)),
  (31, ([.fn], 8)),
  (33, ([.fn], 8)),
  (34, ([.slice], 24)),
  (35, ([.int, .slice, .slice], 56)),
  (36, ([.int, .slice, .slice], 56)),
  (37, ([.fn], 8)),
  (38, ([.slice, .slice, .slice], 72)),
  (39, ([.fn], 8)),
  (40, ([.fn], 8)),
  (41, ([.fn], 8)),
  (42, ([.fn], 8)),
  (43, ([.fn], 8)),
  (44, ([.fn], 8)),
  (45, ([.fn], 8)),
  (46, ([.fn], 8)),
  (47, ([.fn], 8)),
  (48, ([.fn], 8)),
  (49, ([.fn], 8)),
  (50, ([.fn], 8)),
  (51, ([.ptr], 8)),
  (52, ([.ptr], 8)),
  (53, ([.fn], 8)),
  (54, ([.fn], 8)),
  (55, ([.fn], 8)),
  (56, ([.fn], 8)),
  (57, ([.fn], 8)),
  (58, ([.fn], 8)),
  (59, ([.fn], 8)),
  (60, ([.fn], 8)),
  (61, ([.fn], 8)),
  (62, ([.fn], 8)),
  (63, ([.fn], 8)),
  (64, ([.fn], 8)),
  (65, ([.slice], 24)),
  (66, ([.int, .int, .slice, .slice, .slice, .slice, .slice, .slice, .bool], 168)),
  (67, ([.int, .int, .slice, .slice, .slice, .slice, .slice, .slice, .bool], 168)),
  (68, ([.fn], 8)),
  (69, ([.ptr], 8)),
  (70, ([.slice], 24)),
  (71, ([.int, .int, .slice, .slice, .slice, .slice, .slice, .slice, .bool], 168)),
  (72, ([.int, .int, .slice, .slice, .slice, .slice, .slice, .slice, .bool], 168)),
  (73, ([.fn], 8)),
  (74, ([.fn], 8)),
  (75, ([.fn], 8)),
  (76, ([.fn], 8)),
  (77, ([.fn], 8)),
  (78, ([.fn], 8)),
  (79, ([.int, .int, .int, .int, .int, .int], 48)),
  (80, ([.fn], 8)),
  (81, ([.fn], 8)),
  (82, ([.fn], 8)),
  (83, ([.fn], 8)),
  (84, ([.fn], 8)),
  (85, ([.fn], 8)),
  (86, ([.int, .slice], 32)),
  (87, ([.int, .slice], 32)),
  (88, ([.fn], 8)),
  (89, ([.fn], 8)),
  (90, ([.fn], 8)),
  (91, ([.int, .int, .int, .int, .int, .int], 48)),
  (92, ([.fn], 8)),
  (93, ([.fn], 8)),
  (94, ([.fn], 8)),
  (95, ([.fn], 8)),
  (96, ([.fn], 8)),
  (97, ([.fn], 8)),
  (98, ([.fn], 8)),
  (99, ([.fn], 8)),
  (100, ([.fn], 8)),
  (101, ([.int, .slice], 32)),
  (102, ([.ptr], 8)),
  (103, ([.fn], 8)),
  (104, ([.fn], 8)),
  (105, ([.fn], 8)),
  (106, ([.fn], 8)),
  (107, ([.fn], 8)),
  (108, ([.fn], 8)),
  (109, ([.fn], 8)),
  (110, ([.fn], 8)),
  (111, ([.ptr, .ptr, .ptr, .str], 40)),
  (112, ([.ptr, .ptr, .ptr, .str], 40)),
  (113, ([], 0)),
  (114, ([], 0)),
  (115, ([], 0)),
  (116, ([.fn], 8)),
  (118, ([.byte], 1)),
  (119, ([.byte], 1)),
  (120, ([.fn], 8)),
  (121, ([.ptr], 8)),
  (126, ([.fn], 8))]
def zt : Nat → Option (List ZK × Nat) := lkZ ztl
theorem ztOk : ZtOk Try.prog zt := ztOk_of_list ztl (by kernel_rfl)
theorem mix : Try.prog.follows .mixedOrders = true := by kernel_rfl
end Go.Proofs.Ytlllmhjpcdcoiaa

/-
  The helpers of the laws over numbers, lists of numbers and lists of lists: sizes, copies, comparisons. No condition but that the sizes are at most 1048576.
-/
namespace Go.Proofs.Ytlllmhjpcdcoiaa
open Go.AI
set_option maxRecDepth 8000
def szR {α : Type} (left : Int) (l : List α) : Int := if left - l.length < 0 then -1 else left - l.length
theorem szR_le {α : Type} {left : Int} {l : List α} (h1 : -1 ≤ left) (h2 : left ≤ 1048576) : -1 ≤ szR left l ∧ szR left l ≤ 1048576 := by unfold szR; split <;> omega
theorem szR_ok {α : Type} {left : Int} {l : List α} (h2 : left ≤ 1048576) (h : ¬ szR left l < 0) : l.length ≤ 1048576 := by unfold szR at h; split at h <;> omega
def szL {α : Type} (f : Int → α → Int) : Int → List α → Int
  | left, [] => left
  | left, r :: rs => if f left r < 0 then -1 else szL f (f left r) rs
def szSl {α : Type} (f : Int → α → Int) (left : Int) (l : List α) : Int := if left - l.length < 0 then -1 else szL f (left - l.length) l
theorem szL_le {α : Type} {f : Int → α → Int} (hf : ∀ left x, -1 ≤ left → left ≤ 1048576 → -1 ≤ f left x ∧ f left x ≤ 1048576) : ∀ (l : List α) (left : Int), -1 ≤ left → left ≤ 1048576 → -1 ≤ szL f left l ∧ szL f left l ≤ 1048576
  | [], left, h1, h2 => ⟨h1, h2⟩
  | x :: l, left, h1, h2 => by
    unfold szL; split
    · omega
    · exact szL_le hf l _ (hf left x h1 h2).1 (hf left x h1 h2).2
theorem szSl_le {α : Type} {f : Int → α → Int} (hf : ∀ left x, -1 ≤ left → left ≤ 1048576 → -1 ≤ f left x ∧ f left x ≤ 1048576) {l : List α} {left : Int} (h1 : -1 ≤ left) (h2 : left ≤ 1048576) : -1 ≤ szSl f left l ∧ szSl f left l ≤ 1048576 := by
  unfold szSl; split
  · omega
  · exact szL_le hf _ _ (by omega) (by omega)
theorem szL_ok {α : Type} {f : Int → α → Int} {p : α → Prop} (hf : ∀ left x, -1 ≤ left → left ≤ 1048576 → -1 ≤ f left x ∧ f left x ≤ 1048576) (hp : ∀ left x, -1 ≤ left → left ≤ 1048576 → ¬ f left x < 0 → p x) : ∀ (l : List α) (left : Int), -1 ≤ left → left ≤ 1048576 → ¬ szL f left l < 0 → ∀ x ∈ l, p x
  | [], _, _, _, _, x, hx => by cases hx
  | y :: l, left, h1, h2, h, x, hx => by
    unfold szL at h
    split at h
    · exact absurd (by decide) h
    · rename_i hn
      rcases List.mem_cons.1 hx with rfl | hx
      · exact hp left _ h1 h2 hn
      · exact szL_ok hf hp l _ (hf left y h1 h2).1 (hf left y h1 h2).2 h x hx
/-- What a size that is not negative tells of a list. -/
theorem szSl_ok {α : Type} {f : Int → α → Int} {p : α → Prop} (hf : ∀ left x, -1 ≤ left → left ≤ 1048576 → -1 ≤ f left x ∧ f left x ≤ 1048576) (hp : ∀ left x, -1 ≤ left → left ≤ 1048576 → ¬ f left x < 0 → p x) {l : List α} {left : Int} (h1 : -1 ≤ left) (h2 : left ≤ 1048576) (h : ¬ szSl f left l < 0) :
    l.length ≤ 1048576 ∧ ∀ x ∈ l, p x := by
  unfold szSl at h
  split at h
  · exact absurd (by decide) h
  · exact ⟨by omega, szL_ok hf hp l _ (by omega) (by omega) h⟩
theorem c_szInt64S (l : List Int) (left : Int) (h1 : -1 ≤ left) (h2 : left ≤ 1048576) : Gives Try.prog 17 [.sl (l.map Go.AI.encI), .int left] (.int (szR left l)) := by
  refine fn_of_run tyOk ztOk mix Try.func17 rfl (by decide) Try.ntmps17 (fun w0 h => ?_)
  refine run_len (t := 0) rfl (fun hl => ?_)
  rw [List.length_map] at hl
  repeat' (first
      | (refine j_go ?_; first
        | refine j_op0 rfl rfl rfl rfl ?_ | (refine j_kBin rfl ?_; first | refine j_in rfl rfl ⟨by omega, by omega⟩ rfl rfl ?_) | (refine j_kLen rfl ?_; first | refine j_len rfl rfl rfl rfl rfl rfl ?_))
      | refine j_nil ?_
      | (refine r_go ?_; first | refine run_seq ?_ | refine run_region ?_ | (refine (run_if rfl (fun hb => ?_) (fun hb => ?_)) <;> first | (exfalso; omega) | skip) | refine run_ret ?_ | refine run_skip ?_)
      | refine seqQ_normal ?_ | refine seqQ_ret ?_)
  · exact end1 rfl (List.Sublist.refl _) (by unfold szR; rw [if_pos hb]; rfl) (.inl rfl)
  · exact end1 rfl (List.Sublist.refl _) (by unfold szR; rw [if_neg hb]) (.inl rfl)
theorem c_toInt64S (l : List (Int)) (hl : l.length ≤ 1048576) : Gives Try.prog 23 [.sl (l.map Go.AI.encI)] (.sl (l.map Go.AI.encI)) := by
  refine fn_of_run tyOk ztOk mix Try.func23 rfl (by decide) Try.ntmps23 (fun w0 h => ?_)
  repeat' (first
      | (refine j_go ?_; first
        | refine j_op0 rfl rfl rfl rfl ?_ | (refine j_kLen rfl ?_; first | refine j_len rfl rfl rfl rfl rfl rfl ?_))
      | refine j_nil ?_
      | (refine r_go ?_; first | refine run_seq ?_ | refine run_region ?_)
      | refine seqQ_normal ?_)
  refine j_makeI (g := Go.AI.encI) 0 rfl rfl rfl rfl rfl rfl rfl rfl rfl (by omega) rfl rfl (fun b => ?_)
  repeat' (first
      | (refine j_go ?_; first
        | refine j_op0 rfl rfl rfl rfl ?_)
      | refine j_nil ?_
      | (refine r_go ?_; first | refine run_seq ?_ | refine run_region ?_ | refine run_block ?_)
      | refine seqQ_normal ?_)
  refine run_loop (fun k : Nat => [(0, .sl (l.map Go.AI.encI)), (3, .os (some b) l.length l.length), (4, .int (k : Int))]) (fun k => ⟨some b, 2, l.length * 1, ((l.take k ++ List.replicate (l.length - k) 0).map Go.AI.encI).flatten⟩ :: h)
      (fun k => k ≤ l.length) (fun k => l.length - k) 0 ⟨rfl, rfl, rfl, trivial⟩ (by simp) (by omega) ?_
  intro k g1
  repeat' (first
      | (refine j_go ?_; first
        | refine j_op0 rfl rfl rfl rfl ?_ | (refine j_kIdx rfl ?_; first | refine j_idx rfl rfl rfl rfl rfl (by omega) rfl rfl rfl ?_ | refine j_midx rfl rfl rfl rfl rfl (by first | omega | (simp only [List.length_append, List.length_cons, List.length_nil]; omega)) rfl rfl ?_) | (refine j_kLen rfl ?_; first | refine j_len rfl rfl rfl rfl rfl rfl ?_))
      | refine j_nil ?_
      | (refine r_go ?_; first | refine run_seq ?_ | refine run_region ?_ | (refine (run_if rfl (fun hb => ?_) (fun hb => ?_)) <;> first | (exfalso; omega) | skip) | refine run_block ?_ | refine run_ret ?_ | refine run_exit ?_ | refine run_skip ?_)
      | refine seqQ_normal ?_ | refine seqQ_exit ?_ | refine blockQ_eq ?_ | refine loopQ_exit ?_)
  · have hk : k < l.length := by omega
    refine j_storeE 0 k (g := Go.AI.encI) l[k] rfl rfl rfl rfl rfl rfl rfl rfl rfl (fun _ => rfl : ∀ y, (Go.AI.encI y).length = 1) rfl (by simp; omega) ?_
    repeat' (first
      | (refine j_go ?_; first
        | refine j_op0 rfl rfl rfl rfl ?_ | (refine j_kBin rfl ?_; first | refine j_in rfl rfl ⟨by omega, by omega⟩ rfl rfl ?_))
      | refine j_nil ?_
      | (refine r_go ?_; first | refine run_region ?_)
      | refine seqQ_normal ?_ | refine blockQ_normal ?_)
    exact loopQ_next (k + 1) (by omega) (by omega) (by rw [← take_rep_set hk]; rfl) ⟨rfl, rfl, nx _, trivial⟩
  · have : k = l.length := by omega
    subst this
    refine end_view (view_freeze (g := Go.AI.encI) (z := 1) (ys := l) 0 2 rfl rfl (by simp) (fun _ => rfl : ∀ y, (Go.AI.encI y).length = 1) rfl rfl) ?_
    exact end1 rfl (List.Sublist.refl _) rfl (.inl rfl)
theorem c_eqInt64S (a b : List (Int)) : Gives Try.prog 10 [.sl (a.map Go.AI.encI), .sl (b.map Go.AI.encI)] (.raw (.bool (dec (a = b)))) := by
  refine fn_of_run tyOk ztOk mix Try.func10 rfl (by decide) Try.ntmps10 (fun w0 h => ?_)
  refine run_len (t := 0) rfl (fun hla => ?_)
  refine run_len (t := 1) rfl (fun hlb => ?_)
  rw [List.length_map] at hla hlb
  repeat' (first
      | (refine j_go ?_; first
        | refine j_op0 rfl rfl rfl rfl ?_ | (refine j_kLen rfl ?_; first | refine j_len rfl rfl rfl rfl rfl rfl ?_))
      | refine j_nil ?_
      | (refine r_go ?_; first | refine run_seq ?_ | refine run_region ?_ | (refine (run_ifn rfl (fun hb => ?_) (fun hb => ?_)) <;> first | (exfalso; omega) | skip) | refine run_block ?_ | refine run_ret ?_ | refine run_skip ?_)
      | refine seqQ_normal ?_ | refine seqQ_ret ?_)
  · exact end1 rfl (List.Sublist.refl _) (rb (dec_f (fun q => hb (by rw [q]))).symm) (.inl rfl)
  · have hn : a.length = b.length := by omega
    refine run_loop (fun k : Nat => [(0, .sl (a.map Go.AI.encI)), (1, .sl (b.map Go.AI.encI)), (5, .int (k : Int))]) (fun _ => h) (fun k => k ≤ a.length ∧ a.take k = b.take k) (fun k => a.length - k) 0 ⟨rfl, rfl, rfl, trivial⟩ rfl ⟨by omega, rfl⟩ ?_
    intro k ⟨g1, g2⟩
    repeat' (first
      | (refine j_go ?_; first
        | refine j_op0 rfl rfl rfl rfl ?_ | (refine j_kIdx rfl ?_; first | refine j_idx rfl rfl rfl rfl rfl (by omega) rfl rfl rfl ?_) | (refine j_kBin rfl ?_; first | refine j_in rfl rfl ⟨by omega, by omega⟩ rfl rfl ?_) | (refine j_kLen rfl ?_; first | refine j_len rfl rfl rfl rfl rfl rfl ?_))
      | refine j_nil ?_
      | (refine r_go ?_; first | refine run_seq ?_ | refine run_region ?_ | (refine (run_if rfl (fun hb => ?_) (fun hb => ?_)) <;> first | (exfalso; omega) | skip) | (refine (run_ifn rfl (fun hb => ?_) (fun hb => ?_)) <;> first | (exfalso; omega) | skip) | refine run_block ?_ | refine run_ret ?_ | refine run_exit ?_ | refine run_skip ?_ | refine run_regionD (by kernel_rfl) ?_)
      | refine seqQ_normal ?_ | refine seqQ_ret ?_ | refine seqQ_exit ?_ | refine blockQ_normal ?_ | refine blockQ_ret ?_ | refine blockQ_eq ?_ | refine loopQ_ret ?_ | refine loopQ_exit ?_)
    · exact end1 rfl (List.Sublist.refl _) (rb (dec_f (fun q => hb (by subst q; rfl))).symm) (.inl rfl)
    · exact loopQ_next (k + 1) ⟨by omega, take_eq_succ g2 (by omega) (by omega) hb⟩ (by omega) rfl ⟨rfl, rfl, nx _, trivial⟩
    · have hk : k = a.length := by omega
      subst hk
      exact end1 rfl (List.Sublist.refl _) (rb (dec_t (by rw [List.take_length, hn, List.take_length] at g2; exact g2)).symm) (.inl rfl)
theorem c_szBoolS (l : List Bool) (left : Int) (h1 : -1 ≤ left) (h2 : left ≤ 1048576) : Gives Try.prog 19 [.sl (l.map encB), .int left] (.int (szR left l)) := by
  refine fn_of_run tyOk ztOk mix Try.func19 rfl (by decide) Try.ntmps19 (fun w0 h => ?_)
  refine run_len (t := 0) rfl (fun hl => ?_)
  rw [List.length_map] at hl
  repeat' (first
      | (refine j_go ?_; first
        | refine j_op0 rfl rfl rfl rfl ?_ | (refine j_kBin rfl ?_; first | refine j_in rfl rfl ⟨by omega, by omega⟩ rfl rfl ?_) | (refine j_kLen rfl ?_; first | refine j_len rfl rfl rfl rfl rfl rfl ?_))
      | refine j_nil ?_
      | (refine r_go ?_; first | refine run_seq ?_ | refine run_region ?_ | (refine (run_if rfl (fun hb => ?_) (fun hb => ?_)) <;> first | (exfalso; omega) | skip) | refine run_ret ?_ | refine run_skip ?_)
      | refine seqQ_normal ?_ | refine seqQ_ret ?_)
  · exact end1 rfl (List.Sublist.refl _) (by unfold szR; rw [if_pos hb]; rfl) (.inl rfl)
  · exact end1 rfl (List.Sublist.refl _) (by unfold szR; rw [if_neg hb]) (.inl rfl)
theorem c_toBoolS (l : List (Bool)) (hl : l.length ≤ 1048576) : Gives Try.prog 25 [.sl (l.map encB)] (.sl (l.map encB)) := by
  refine fn_of_run tyOk ztOk mix Try.func25 rfl (by decide) Try.ntmps25 (fun w0 h => ?_)
  repeat' (first
      | (refine j_go ?_; first
        | refine j_op0 rfl rfl rfl rfl ?_ | (refine j_kLen rfl ?_; first | refine j_len rfl rfl rfl rfl rfl rfl ?_))
      | refine j_nil ?_
      | (refine r_go ?_; first | refine run_seq ?_ | refine run_region ?_)
      | refine seqQ_normal ?_)
  refine j_makeI (g := encB) false rfl rfl rfl rfl rfl rfl rfl rfl rfl (by omega) rfl rfl (fun b => ?_)
  repeat' (first
      | (refine j_go ?_; first
        | refine j_op0 rfl rfl rfl rfl ?_)
      | refine j_nil ?_
      | (refine r_go ?_; first | refine run_seq ?_ | refine run_region ?_ | refine run_block ?_)
      | refine seqQ_normal ?_)
  refine run_loop (fun k : Nat => [(0, .sl (l.map encB)), (3, .os (some b) l.length l.length), (4, .int (k : Int))]) (fun k => ⟨some b, 4, l.length * 1, ((l.take k ++ List.replicate (l.length - k) false).map encB).flatten⟩ :: h)
      (fun k => k ≤ l.length) (fun k => l.length - k) 0 ⟨rfl, rfl, rfl, trivial⟩ (by simp) (by omega) ?_
  intro k g1
  repeat' (first
      | (refine j_go ?_; first
        | refine j_op0 rfl rfl rfl rfl ?_ | (refine j_kIdx rfl ?_; first | refine j_idx rfl rfl rfl rfl rfl (by omega) rfl rfl rfl ?_ | refine j_midx rfl rfl rfl rfl rfl (by first | omega | (simp only [List.length_append, List.length_cons, List.length_nil]; omega)) rfl rfl ?_) | (refine j_kLen rfl ?_; first | refine j_len rfl rfl rfl rfl rfl rfl ?_))
      | refine j_nil ?_
      | (refine r_go ?_; first | refine run_seq ?_ | refine run_region ?_ | (refine (run_if rfl (fun hb => ?_) (fun hb => ?_)) <;> first | (exfalso; omega) | skip) | refine run_block ?_ | refine run_ret ?_ | refine run_exit ?_ | refine run_skip ?_)
      | refine seqQ_normal ?_ | refine seqQ_exit ?_ | refine blockQ_eq ?_ | refine loopQ_exit ?_)
  · have hk : k < l.length := by omega
    refine j_storeE 0 k (g := encB) l[k] rfl rfl rfl rfl rfl rfl rfl rfl rfl (fun _ => rfl : ∀ y, (encB y).length = 1) rfl (by simp; omega) ?_
    repeat' (first
      | (refine j_go ?_; first
        | refine j_op0 rfl rfl rfl rfl ?_ | (refine j_kBin rfl ?_; first | refine j_in rfl rfl ⟨by omega, by omega⟩ rfl rfl ?_))
      | refine j_nil ?_
      | (refine r_go ?_; first | refine run_region ?_)
      | refine seqQ_normal ?_ | refine blockQ_normal ?_)
    exact loopQ_next (k + 1) (by omega) (by omega) (by rw [← take_rep_set hk]; rfl) ⟨rfl, rfl, nx _, trivial⟩
  · have : k = l.length := by omega
    subst this
    refine end_view (view_freeze (g := encB) (z := 1) (ys := l) 0 2 rfl rfl (by simp) (fun _ => rfl : ∀ y, (encB y).length = 1) rfl rfl) ?_
    exact end1 rfl (List.Sublist.refl _) rfl (.inl rfl)
theorem c_eqBoolS (a b : List (Bool)) : Gives Try.prog 30 [.sl (a.map encB), .sl (b.map encB)] (.raw (.bool (dec (a = b)))) := by
  refine fn_of_run tyOk ztOk mix Try.func30 rfl (by decide) Try.ntmps30 (fun w0 h => ?_)
  refine run_len (t := 0) rfl (fun hla => ?_)
  refine run_len (t := 1) rfl (fun hlb => ?_)
  rw [List.length_map] at hla hlb
  repeat' (first
      | (refine j_go ?_; first
        | refine j_op0 rfl rfl rfl rfl ?_ | (refine j_kLen rfl ?_; first | refine j_len rfl rfl rfl rfl rfl rfl ?_))
      | refine j_nil ?_
      | (refine r_go ?_; first | refine run_seq ?_ | refine run_region ?_ | (refine (run_ifn rfl (fun hb => ?_) (fun hb => ?_)) <;> first | (exfalso; omega) | skip) | refine run_block ?_ | refine run_ret ?_ | refine run_skip ?_)
      | refine seqQ_normal ?_ | refine seqQ_ret ?_)
  · exact end1 rfl (List.Sublist.refl _) (rb (dec_f (fun q => hb (by rw [q]))).symm) (.inl rfl)
  · have hn : a.length = b.length := by omega
    refine run_loop (fun k : Nat => [(0, .sl (a.map encB)), (1, .sl (b.map encB)), (5, .int (k : Int))]) (fun _ => h) (fun k => k ≤ a.length ∧ a.take k = b.take k) (fun k => a.length - k) 0 ⟨rfl, rfl, rfl, trivial⟩ rfl ⟨by omega, rfl⟩ ?_
    intro k ⟨g1, g2⟩
    repeat' (first
      | (refine j_go ?_; first
        | refine j_op0 rfl rfl rfl rfl ?_ | (refine j_kIdx rfl ?_; first | refine j_idx rfl rfl rfl rfl rfl (by omega) rfl rfl rfl ?_) | (refine j_kBin rfl ?_; first | refine j_in rfl rfl ⟨by omega, by omega⟩ rfl rfl ?_) | (refine j_kLen rfl ?_; first | refine j_len rfl rfl rfl rfl rfl rfl ?_))
      | refine j_nil ?_
      | (refine r_go ?_; first | refine run_seq ?_ | refine run_region ?_ | (refine (run_if rfl (fun hb => ?_) (fun hb => ?_)) <;> first | (exfalso; omega) | skip) | (refine (run_ifn rfl (fun hb => ?_) (fun hb => ?_)) <;> first | (exfalso; omega) | skip) | refine run_block ?_ | refine run_ret ?_ | refine run_exit ?_ | refine run_skip ?_ | refine run_regionD (by kernel_rfl) ?_)
      | refine seqQ_normal ?_ | refine seqQ_ret ?_ | refine seqQ_exit ?_ | refine blockQ_normal ?_ | refine blockQ_ret ?_ | refine blockQ_eq ?_ | refine loopQ_ret ?_ | refine loopQ_exit ?_)
    · exact end1 rfl (List.Sublist.refl _) (rb (dec_f (fun q => hb (by subst q; rfl))).symm) (.inl rfl)
    · exact loopQ_next (k + 1) ⟨by omega, take_eq_succ g2 (by omega) (by omega) hb⟩ (by omega) rfl ⟨rfl, rfl, nx _, trivial⟩
    · have hk : k = a.length := by omega
      subst hk
      exact end1 rfl (List.Sublist.refl _) (rb (dec_t (by rw [List.take_length, hn, List.take_length] at g2; exact g2)).symm) (.inl rfl)
theorem c_szInt64SS (l : List (List Int)) (left : Int) (h1 : -1 ≤ left) (h2 : left ≤ 1048576) : Gives Try.prog 20 [.sl (l.map (encS Go.AI.encI)), .int left] (.int (szSl szR left l)) := by
  refine fn_of_run tyOk ztOk mix Try.func20 rfl (by decide) Try.ntmps20 (fun w0 h => ?_)
  refine run_len (t := 0) rfl (fun hl => ?_)
  rw [List.length_map] at hl
  repeat' (first
      | (refine j_go ?_; first
        | refine j_op0 rfl rfl rfl rfl ?_ | (refine j_kBin rfl ?_; first | refine j_in rfl rfl ⟨by omega, by omega⟩ rfl rfl ?_) | (refine j_kLen rfl ?_; first | refine j_len rfl rfl rfl rfl rfl rfl ?_))
      | refine j_nil ?_
      | (refine r_go ?_; first | refine run_seq ?_ | refine run_region ?_ | (refine (run_if rfl (fun hb => ?_) (fun hb => ?_)) <;> first | (exfalso; omega) | skip) | refine run_block ?_ | refine run_ret ?_ | refine run_skip ?_)
      | refine seqQ_normal ?_ | refine seqQ_ret ?_)
  · exact end1 rfl (List.Sublist.refl _) (by unfold szSl; rw [if_pos hb]; rfl) (.inl rfl)
  · unfold szSl
    rw [if_neg hb]
    refine run_loop (fun s : Nat × Int => [(0, .sl (l.map (encS Go.AI.encI))), (1, .int s.2), (5, .int (s.1 : Int))]) (fun _ => h)
      (fun s => s.1 ≤ l.length ∧ (-1 ≤ s.2 ∧ s.2 ≤ 1048576) ∧ szL szR (left - l.length) l = szL szR s.2 (l.drop s.1)) (fun s => l.length - s.1) (0, left - l.length) ⟨rfl, rfl, rfl, trivial⟩ rfl ⟨by omega, by omega, rfl⟩ ?_
    intro ⟨k, s⟩ ⟨g1, g2, g3⟩
    dsimp only at g1 g2 g3 ⊢
    have gn : ∀ (hk : k < l.length), szL szR s (l.drop k) = if szR s l[k] < 0 then -1 else szL szR (szR s l[k]) (l.drop (k + 1)) := fun hk => by
      rw [List.drop_eq_getElem_cons hk, szL]
    repeat' (first
      | (refine j_go ?_; first
        | refine j_op0 rfl rfl rfl rfl ?_ | (refine j_kIdx rfl ?_; first | refine j_idx rfl rfl rfl rfl rfl (by omega) rfl rfl rfl ?_) | (refine j_kBin rfl ?_; first | refine j_in rfl rfl ⟨by omega, by omega⟩ rfl rfl ?_) | (refine j_kLen rfl ?_; first | refine j_len rfl rfl rfl rfl rfl rfl ?_) | (refine j_kCall rfl rfl rfl rfl ?_; first | refine jc (c_szInt64S _ _ (by omega) (by omega)) (LeL.refl _) rfl rfl ?_))
      | refine j_nil ?_
      | (refine r_go ?_; first | refine run_seq ?_ | refine run_region ?_ | (refine (run_if rfl (fun hb => ?_) (fun hb => ?_)) <;> first | (exfalso; omega) | skip) | refine run_block ?_ | refine run_ret ?_ | refine run_exit ?_ | refine run_skip ?_)
      | refine seqQ_normal ?_ | refine seqQ_ret ?_ | refine seqQ_exit ?_ | refine blockQ_normal ?_ | refine blockQ_ret ?_ | refine blockQ_eq ?_ | refine loopQ_ret ?_ | refine loopQ_exit ?_)
    · rename_i hk
      exact end1 rfl (List.Sublist.refl _) (by rw [g3, gn (by omega), if_pos hb]; rfl) (.inl rfl)
    · rename_i hk
      have hk' : k < l.length := by omega
      exact loopQ_next (k + 1, szR s l[k]) ⟨by dsimp only; omega, szR_le (by omega) (by omega), by rw [g3, gn hk', if_neg hb]⟩ (by dsimp only; omega) rfl ⟨rfl, rfl, nx _, trivial⟩
    · have : k = l.length := by omega
      subst this
      exact end1 rfl (List.Sublist.refl _) (by rw [g3, List.drop_length, szL]) (.inl rfl)
theorem c_toInt64SS (l : List (List Int)) (hl : l.length ≤ 1048576) (hl2 : ∀ x ∈ l, (fun r => r.length ≤ 1048576) x) : Gives Try.prog 26 [.sl (l.map (encS Go.AI.encI))] (.sl (l.map (encS Go.AI.encI))) := by
  refine fn_of_run tyOk ztOk mix Try.func26 rfl (by decide) Try.ntmps26 (fun w0 h => ?_)
  repeat' (first
      | (refine j_go ?_; first
        | refine j_op0 rfl rfl rfl rfl ?_ | (refine j_kLen rfl ?_; first | refine j_len rfl rfl rfl rfl rfl rfl ?_))
      | refine j_nil ?_
      | (refine r_go ?_; first | refine run_seq ?_ | refine run_region ?_)
      | refine seqQ_normal ?_)
  refine j_makeI (g := (encS Go.AI.encI)) [] rfl rfl rfl rfl rfl rfl rfl rfl rfl (by omega) rfl rfl (fun b => ?_)
  repeat' (first
      | (refine j_go ?_; first
        | refine j_op0 rfl rfl rfl rfl ?_)
      | refine j_nil ?_
      | (refine r_go ?_; first | refine run_seq ?_ | refine run_region ?_ | refine run_block ?_)
      | refine seqQ_normal ?_)
  refine run_loop (fun k : Nat => [(0, .sl (l.map (encS Go.AI.encI))), (3, .os (some b) l.length l.length), (4, .int (k : Int))]) (fun k => ⟨some b, 22, l.length * 1, ((l.take k ++ List.replicate (l.length - k) []).map (encS Go.AI.encI)).flatten⟩ :: h)
      (fun k => k ≤ l.length) (fun k => l.length - k) 0 ⟨rfl, rfl, rfl, trivial⟩ (by simp) (by omega) ?_
  intro k g1
  repeat' (first
      | (refine j_go ?_; first
        | refine j_op0 rfl rfl rfl rfl ?_ | (refine j_kIdx rfl ?_; first | refine j_idx rfl rfl rfl rfl rfl (by omega) rfl rfl rfl ?_ | refine j_midx rfl rfl rfl rfl rfl (by first | omega | (simp only [List.length_append, List.length_cons, List.length_nil]; omega)) rfl rfl ?_) | (refine j_kLen rfl ?_; first | refine j_len rfl rfl rfl rfl rfl rfl ?_) | (refine j_kCall rfl rfl rfl rfl ?_; first | refine jc (c_toInt64S _ (hl2 _ (List.getElem_mem _))) (LeL.refl _) rfl rfl ?_))
      | refine j_nil ?_
      | (refine r_go ?_; first | refine run_seq ?_ | refine run_region ?_ | (refine (run_if rfl (fun hb => ?_) (fun hb => ?_)) <;> first | (exfalso; omega) | skip) | refine run_block ?_ | refine run_ret ?_ | refine run_exit ?_ | refine run_skip ?_)
      | refine seqQ_normal ?_ | refine seqQ_exit ?_ | refine blockQ_eq ?_ | refine loopQ_exit ?_)
  · have hk : k < l.length := by omega
    refine j_storeE 0 k (g := (encS Go.AI.encI)) l[k] rfl rfl rfl rfl rfl rfl rfl rfl rfl (fun _ => rfl : ∀ y, ((encS Go.AI.encI) y).length = 1) rfl (by simp; omega) ?_
    repeat' (first
      | (refine j_go ?_; first
        | refine j_op0 rfl rfl rfl rfl ?_ | (refine j_kBin rfl ?_; first | refine j_in rfl rfl ⟨by omega, by omega⟩ rfl rfl ?_))
      | refine j_nil ?_
      | (refine r_go ?_; first | refine run_region ?_)
      | refine seqQ_normal ?_ | refine blockQ_normal ?_)
    exact loopQ_next (k + 1) (by omega) (by omega) (by rw [← take_rep_set hk]; rfl) ⟨rfl, rfl, nx _, trivial⟩
  · have : k = l.length := by omega
    subst this
    refine end_view (view_freeze (g := (encS Go.AI.encI)) (z := 1) (ys := l) 0 2 rfl rfl (by simp) (fun _ => rfl : ∀ y, ((encS Go.AI.encI) y).length = 1) rfl rfl) ?_
    exact end1 rfl (List.Sublist.refl _) rfl (.inl rfl)
theorem c_eqInt64SS (a b : List (List Int)) : Gives Try.prog 31 [.sl (a.map (encS Go.AI.encI)), .sl (b.map (encS Go.AI.encI))] (.raw (.bool (dec (a = b)))) := by
  refine fn_of_run tyOk ztOk mix Try.func31 rfl (by decide) Try.ntmps31 (fun w0 h => ?_)
  refine run_len (t := 0) rfl (fun hla => ?_)
  refine run_len (t := 1) rfl (fun hlb => ?_)
  rw [List.length_map] at hla hlb
  repeat' (first
      | (refine j_go ?_; first
        | refine j_op0 rfl rfl rfl rfl ?_ | (refine j_kLen rfl ?_; first | refine j_len rfl rfl rfl rfl rfl rfl ?_))
      | refine j_nil ?_
      | (refine r_go ?_; first | refine run_seq ?_ | refine run_region ?_ | (refine (run_ifn rfl (fun hb => ?_) (fun hb => ?_)) <;> first | (exfalso; omega) | skip) | refine run_block ?_ | refine run_ret ?_ | refine run_skip ?_)
      | refine seqQ_normal ?_ | refine seqQ_ret ?_)
  · exact end1 rfl (List.Sublist.refl _) (rb (dec_f (fun q => hb (by rw [q]))).symm) (.inl rfl)
  · have hn : a.length = b.length := by omega
    refine run_loop (fun k : Nat => [(0, .sl (a.map (encS Go.AI.encI))), (1, .sl (b.map (encS Go.AI.encI))), (5, .int (k : Int))]) (fun _ => h) (fun k => k ≤ a.length ∧ a.take k = b.take k) (fun k => a.length - k) 0 ⟨rfl, rfl, rfl, trivial⟩ rfl ⟨by omega, rfl⟩ ?_
    intro k ⟨g1, g2⟩
    repeat' (first
      | (refine j_go ?_; first
        | refine j_op0 rfl rfl rfl rfl ?_ | (refine j_kIdx rfl ?_; first | refine j_idx rfl rfl rfl rfl rfl (by omega) rfl rfl rfl ?_) | (refine j_kBin rfl ?_; first | refine j_in rfl rfl ⟨by omega, by omega⟩ rfl rfl ?_) | (refine j_kLen rfl ?_; first | refine j_len rfl rfl rfl rfl rfl rfl ?_) | (refine j_kCall rfl rfl rfl rfl ?_; first | refine jc (c_eqInt64S _ _) (LeL.refl _) rfl rfl ?_))
      | refine j_nil ?_
      | (refine r_go ?_; first | refine run_seq ?_ | refine run_region ?_ | (refine (run_if rfl (fun hb => ?_) (fun hb => ?_)) <;> first | (exfalso; omega) | skip) | (refine (run_ifn rfl (fun hb => ?_) (fun hb => ?_)) <;> first | (exfalso; omega) | skip) | refine run_block ?_ | refine run_ret ?_ | refine run_exit ?_ | refine run_skip ?_ | refine run_regionD (by kernel_rfl) ?_)
      | refine seqQ_normal ?_ | refine seqQ_ret ?_ | refine seqQ_exit ?_ | refine blockQ_normal ?_ | refine blockQ_ret ?_ | refine blockQ_eq ?_ | refine loopQ_ret ?_ | refine loopQ_exit ?_)
    · exact end1 rfl (List.Sublist.refl _) (rb (dec_f (fun q => hb (by subst q; rfl))).symm) (.inl rfl)
    · exact loopQ_next (k + 1) ⟨by omega, take_eq_succ g2 (by omega) (by omega) hb⟩ (by omega) rfl ⟨rfl, rfl, nx _, trivial⟩
    · have hk : k = a.length := by omega
      subst hk
      exact end1 rfl (List.Sublist.refl _) (rb (dec_t (by rw [List.take_length, hn, List.take_length] at g2; exact g2)).symm) (.inl rfl)
end Go.Proofs.Ytlllmhjpcdcoiaa

/-
  Small functions of the reference and the program over numbers and lists of numbers: bounds, rising, membership, equality. No condition.
-/
namespace Go.Proofs.Ytlllmhjpcdcoiaa
open Go.AI
set_option maxRecDepth 8000
set_option maxHeartbeats 1600000

theorem c_l00In (n low high : Int) : Gives Try.prog 67 [.int n, .int low, .int high] (.raw (.bool (dec (low ≤ n ∧ n ≤ high)))) := by
  refine fn_of_run tyOk ztOk mix Try.func67 rfl (by decide) Try.ntmps67 (fun w0 h => ?_)
  repeat' (first
      | (refine j_go ?_; first
        | refine j_op0 rfl rfl rfl rfl ?_ | refine j_off rfl rfl rfl ?_ | (refine j_kGuard rfl ?_; first | (refine (j_if rfl rfl rfl (fun hb => ?_) (fun hb => ?_)) <;> first | (exfalso; omega) | skip)))
      | refine j_nil ?_
      | (refine r_go ?_; first | refine run_seq ?_ | refine run_region ?_ | refine run_ret ?_)
      | refine seqQ_normal ?_)
  all_goals first | exact end1 rfl (by first | exact List.Sublist.refl _ | exact sub1 | exact sub2 | exact sub3) (rbT (by omega)) (.inl rfl) | exact end1 rfl (by first | exact List.Sublist.refl _ | exact sub1 | exact sub2 | exact sub3) (rbF (by omega)) (.inl rfl) | exact end1 rfl (List.Sublist.refl _) (rb (by simp [dec_eq]; omega)) (.inl rfl)

theorem c_inRange (n low high : Int) : Gives Try.prog 57 [.int n, .int low, .int high] (.raw (.bool (dec (low ≤ n ∧ n ≤ high)))) := by
  refine fn_of_run tyOk ztOk mix Try.func57 rfl (by decide) Try.ntmps57 (fun w0 h => ?_)
  repeat' (first
      | (refine j_go ?_; first
        | refine j_op0 rfl rfl rfl rfl ?_ | refine j_off rfl rfl rfl ?_ | (refine j_kGuard rfl ?_; first | (refine (j_if rfl rfl rfl (fun hb => ?_) (fun hb => ?_)) <;> first | (exfalso; omega) | skip)))
      | refine j_nil ?_
      | (refine r_go ?_; first | refine run_seq ?_ | refine run_region ?_ | refine run_ret ?_)
      | refine seqQ_normal ?_)
  all_goals first | exact end1 rfl (by first | exact List.Sublist.refl _ | exact sub1 | exact sub2 | exact sub3) (rbT (by omega)) (.inl rfl) | exact end1 rfl (by first | exact List.Sublist.refl _ | exact sub1 | exact sub2 | exact sub3) (rbF (by omega)) (.inl rfl) | exact end1 rfl (List.Sublist.refl _) (rb (by simp [dec_eq]; omega)) (.inl rfl)

end Go.Proofs.Ytlllmhjpcdcoiaa

/-
  Library functions over lists of numbers and lists of lists: the first element of a kind. No condition.
-/
namespace Go.Proofs.Ytlllmhjpcdcoiaa
open Go.AI
set_option maxRecDepth 8000
set_option maxHeartbeats 1600000

theorem c_ixfI (f : FuncId) (caps : List A) (r : Int → Prop) (l : List (Int)) (hf : ∀ x ∈ l, Gives Try.prog f (.int x :: caps) (.raw (.bool (dec (r x))))) : Gives Try.prog 73 [.sl (l.map Go.AI.encI), .fn f caps] (.int (fIdx r l)) := by
  refine fn_of_run tyOk ztOk mix Try.func73 rfl (by decide) Try.ntmps73 (fun w0 h => ?_)
  refine run_len (t := 0) rfl (fun hl => ?_)
  rw [List.length_map] at hl
  repeat' (first
      | (refine j_go ?_; first
        | refine j_op0 rfl rfl rfl rfl ?_ | (refine j_kLen rfl ?_; first | refine j_len rfl rfl rfl rfl rfl rfl ?_))
      | refine j_nil ?_
      | (refine r_go ?_; first | refine run_seq ?_ | refine run_region ?_ | refine run_block ?_)
      | refine seqQ_normal ?_)
  refine run_loop (fun k : Nat => [(0, .sl (l.map Go.AI.encI)), (1, .fn f caps), (7, .int l.length), (8, .int (k : Int))]) (fun _ => _) (fun k => k ≤ l.length ∧ (∀ i (h : i < l.length), i < k → ¬ r l[i])) (fun k => l.length - k) 0 ⟨rfl, rfl, rfl, rfl, trivial⟩ rfl ⟨Nat.zero_le _, by first | (intros; omega) | (simp; done) | rfl | trivial | exact ⟨by simp [sumF], by intros; omega⟩ | exact ⟨by omega, by simp⟩⟩ (fun k ⟨kl, kp⟩ => ?_)
  repeat' (first
      | (refine j_go ?_; first
        | refine j_op0 rfl rfl rfl rfl ?_ | (refine j_kIdx rfl ?_; first | refine j_idx rfl rfl rfl rfl rfl (by omega) rfl rfl rfl ?_) | (refine j_kBin rfl ?_; first | refine j_in rfl rfl ⟨by omega, by omega⟩ rfl rfl ?_) | (refine j_kCall rfl rfl rfl rfl ?_; first | refine jc (hf _ (List.getElem_mem _)) (LeL.refl _) rfl rfl ?_))
      | refine j_nil ?_
      | (refine r_go ?_; first | refine run_seq ?_ | refine run_region ?_ | (refine (run_if rfl (fun hb => ?_) (fun hb => ?_)) <;> first | (exfalso; omega) | skip) | refine run_block ?_ | refine run_ret ?_ | refine run_exit ?_ | refine run_skip ?_)
      | refine seqQ_normal ?_ | refine seqQ_ret ?_ | refine seqQ_exit ?_ | refine blockQ_normal ?_ | refine blockQ_ret ?_ | refine blockQ_eq ?_ | refine loopQ_ret ?_ | refine loopQ_exit ?_)
  · exact end1 rfl (List.Sublist.refl _) (ai (fIdx_at (by omega) hb kp).symm) (.inl rfl)
  · exact loopQ_nextD (k + 1) ⟨by omega, all_step kp (fun _ => hb)⟩ (by omega) (by first | exact List.Sublist.refl _ | exact sub1 | exact sub2 | exact sub3) ⟨rfl, rfl, rfl, nx _, trivial⟩
  · exact end1 rfl (List.Sublist.refl _) (ai (fIdx_none (fun i h => kp i h (by omega))).symm) (.inl rfl)

theorem c_cfI (f : FuncId) (caps : List A) (r : Int → Prop) (l : List (Int)) (hf : ∀ x ∈ l, Gives Try.prog f (.int x :: caps) (.raw (.bool (dec (r x))))) : Gives Try.prog 59 [.sl (l.map Go.AI.encI), .fn f caps] (.raw (.bool (dec (∃ x ∈ l, r x)))) := by
  refine fn_of_run tyOk ztOk mix Try.func59 rfl (by decide) Try.ntmps59 (fun w0 h => ?_)
  repeat' (first
      | (refine j_go ?_; first
        | refine j_op0 rfl rfl rfl rfl ?_ | (refine j_kCall rfl rfl rfl rfl ?_; first | refine jc (c_ixfI _ _ r _ hf) (LeL.refl _) rfl rfl ?_))
      | refine j_nil ?_
      | (refine r_go ?_; first | refine run_seq ?_ | refine run_region ?_ | refine run_ret ?_)
      | refine seqQ_normal ?_)
  exact end1 rfl (List.Sublist.refl _) (rbD (fIdx_ex r l)) (.inl rfl)


end Go.Proofs.Ytlllmhjpcdcoiaa
