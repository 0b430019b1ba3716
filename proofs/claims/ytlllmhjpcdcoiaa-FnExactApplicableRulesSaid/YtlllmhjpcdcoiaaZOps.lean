/-
  What one operation yields, said of plain data. No condition: the rules hold for whatever program.
-/
import Derived.Test.YtlllmhjpcdcoiaaZBase
namespace Go.AI
open Go.RowKit

/-! ### Types -/
inductive TK where
  | scalar
  | bool
  | str
  | ik (k : IntKind)
  | iface
  | struct (fs : List (Nat × Nat))
  | slice (e esz : Nat)
  | arr (n e esz : Nat)
structure TI where
  size : Nat
  k : TK

def sizeB (P : Program) (t n : Nat) : Bool := (P.info? t).any (·.size == n)
def TKok (P : Program) (t : Nat) : TK → Bool
  | .scalar => match P.underlying t with | some (.struct _) => false | some (.array _ _) => false | some (.interface _) => false | some _ => true | none => false
  | .bool => match P.underlying t with | some .bool => true | _ => false
  | .str => match P.underlying t with | some .string => true | _ => false
  | .iface => match P.underlying t with | some (.interface _) => true | _ => false
  | .ik k => match P.underlying t with | some (.int k') => k == k' | _ => false
  | .struct fs => match P.underlying t with | some (.struct F) => F.toList.length == fs.length && (F.toList.zip fs).all fun (f, g) => f.offset == g.1 && sizeB P f.type g.2 && g.2 != 0 | _ => false
  | .slice e esz => match P.underlying t with | some (.slice e') => e == e' && sizeB P e esz | _ => false
  | .arr n e esz => match P.underlying t with | some (.array n' e') => n == n' && e == e' && sizeB P e esz | _ => false
def TIok (P : Program) (t : Nat) (i : TI) : Bool := sizeB P t i.size && TKok P t i.k

def TyOk (P : Program) (ty : Nat → Option TI) : Prop := ∀ t i, ty t = some i → TIok P t i = true
def lkT : List (Nat × TI) → Nat → Option TI
  | [], _ => none
  | (k, v) :: r, t => bif Nat.beq k t then some v else lkT r t
theorem tyOk_of_list {P : Program} (l : List (Nat × TI)) (h : l.all (fun p => TIok P p.1 p.2) = true) : TyOk P (lkT l) := by
  intro t i hi
  induction l with
  | nil => simp [lkT] at hi
  | cons p l ih =>
    obtain ⟨k, v⟩ := p
    simp only [List.all_cons, Bool.and_eq_true] at h
    simp only [lkT] at hi
    cases hb : Nat.beq k t with
    | true =>
      rw [hb] at hi
      simp only [cond_true, Option.some.injEq] at hi
      subst hi
      rw [← Nat.eq_of_beq_eq_true hb]; exact h.1
    | false => rw [hb] at hi; exact ih h.2 hi

section
variable {P : Program}

theorem info_of_size {t n : Nat} (h : sizeB P t n = true) : ∃ i, P.info? t = some i ∧ i.size = n := by
  unfold sizeB at h
  cases hi : P.info? t with
  | none => rw [hi] at h; simp at h
  | some i => rw [hi] at h; exact ⟨i, rfl, by simpa using h⟩

theorem run_sizeOf {t n : Nat} (h : sizeB P t n = true) (w : World) : (sizeOf t).run P w = .ok n w := by
  obtain ⟨i, hi, hn⟩ := info_of_size h
  simp [sizeOf, typeInfo, hi, hn]

theorem run_underlying {t : Nat} {d : TypeDesc} (h : P.underlying t = some d) (w : World) : (underlying t).run P w = .ok d w := by
  simp [underlying, h]

theorem und_struct {t : Nat} {fs : List (Nat × Nat)} (h : TKok P t (.struct fs) = true) : ∃ F : Array Field, P.underlying t = some (.struct F) ∧ ∀ (i : Nat) (p : Nat × Nat), fs[i]? = some p → ∃ f : Field, F[i]? = some f ∧ f.offset = p.1 ∧ sizeB P f.type p.2 = true ∧ p.2 ≠ 0 := by
  simp only [TKok] at h
  split at h
  · rename_i F hF
    refine ⟨F, hF, fun i p hp => ?_⟩
    simp only [Bool.and_eq_true, beq_iff_eq] at h
    obtain ⟨hl, hall⟩ := h
    have hi : i < fs.length := (List.getElem?_eq_some_iff.1 hp).1
    have hiF : i < F.toList.length := by omega
    have hz : (F.toList.zip fs)[i]? = some (F.toList[i], p) := by
      rw [List.getElem?_zip_eq_some]; exact ⟨List.getElem?_eq_getElem hiF, hp⟩
    have := List.all_eq_true.1 hall _ (List.mem_of_getElem? hz)
    simp only [Bool.and_eq_true, beq_iff_eq, bne_iff_ne, ne_eq] at this
    exact ⟨F.toList[i], by simp [Array.getElem?_eq_getElem (by simpa using hiF)], this.1.1, this.1.2, this.2⟩
  · cases h

theorem und_slice {t e z : Nat} (h : TKok P t (.slice e z) = true) : P.underlying t = some (.slice e) ∧ sizeB P e z = true := by
  simp only [TKok] at h
  split at h
  · rename_i e' he
    simp only [Bool.and_eq_true, beq_iff_eq] at h
    rw [he, h.1]; exact ⟨rfl, by rw [← h.1]; exact h.2⟩
  · cases h

theorem und_arr {t n e z : Nat} (h : TKok P t (.arr n e z) = true) : P.underlying t = some (.array n e) ∧ sizeB P e z = true := by
  simp only [TKok] at h
  split at h
  · rename_i n' e' he
    simp only [Bool.and_eq_true, beq_iff_eq] at h
    rw [he, h.1.1, h.1.2]; exact ⟨rfl, by rw [← h.1.2]; exact h.2⟩
  · cases h

theorem und_bool {t : Nat} (h : TKok P t .bool = true) : P.underlying t = some .bool := by
  simp only [TKok] at h
  split at h
  · assumption
  · cases h

theorem und_str {t : Nat} (h : TKok P t .str = true) : P.underlying t = some .string := by
  simp only [TKok] at h
  split at h
  · assumption
  · cases h
theorem und_ik {t : Nat} {k : IntKind} (h : TKok P t (.ik k) = true) : P.underlying t = some (.int k) := by
  simp only [TKok] at h
  split at h
  · rename_i k' hk
    rw [eq_of_beq h]; exact hk
  · cases h

def TK.agg : TK → Bool
  | .struct _ | .arr .. => true
  | _ => false

theorem run_isAgg {t : Nat} {k : TK} (h : TKok P t k = true) (w : World) : (isAgg t).run P w = .ok k.agg w := by
  cases k with
  | scalar =>
    simp only [TKok] at h
    cases hu : P.underlying t with
    | none => rw [hu] at h; cases h
    | some d =>
      rw [hu] at h
      cases d <;> first | (cases h; done) | simp [isAgg, underlying, hu, TK.agg]
  | bool => simp [isAgg, underlying, und_bool h, TK.agg]
  | str => simp [isAgg, underlying, und_str h, TK.agg]
  | ik k => simp [isAgg, underlying, und_ik h, TK.agg]
  | iface =>
    simp only [TKok] at h
    split at h
    · rename_i q hq; simp [isAgg, underlying, hq, TK.agg]
    · cases h
  | struct fs => obtain ⟨F, hF, _⟩ := und_struct h; simp [isAgg, underlying, hF, TK.agg]
  | slice e z => simp [isAgg, underlying, (und_slice h).1, TK.agg]
  | arr n e z => simp [isAgg, underlying, (und_arr h).1, TK.agg]

end

/-! ### One operation -/
def Yields (P : Program) (o : Oper) (a : Act) (w : World) (R : Value → World → Prop) : Prop :=
  match (execOp a.eval o).run P w with
  | .ok (.value u) w' => R u w'
  | .ok .skip w' => R undef w'
  | .ok (.enter f args) w' => Calls P f args w' fun e w'' => ∃ u, e = .returned u ∧ R u w''
  | _ => False

theorem Yields.wp {P : Program} {o : Oper} {a : Act} {w : World} {R : Value → World → Prop} (h : Yields P o a w R) {K : Act → World → Prop} {Q : Exit → Act → World → Prop}
    (hK : ∀ u w', R u w' → K (a.put o.dst u) w') : o.wp P a w K Q := by
  unfold Yields at h
  unfold Oper.wp
  generalize (execOp a.eval o).run P w = r at h
  cases r with
  | ok n w' =>
    cases n <;> simp only [Oper.upon] at h ⊢
    case value u => exact hK _ _ h
    case skip => exact hK _ _ h
    case enter f args =>
      refine h.mono fun e w'' he => ?_
      obtain ⟨u, rfl, hR⟩ := he
      exact hK _ _ hR
  | halt x w' => exact h.elim

/-- What is known when an operation comes up: of its operands alone. -/
structure Sit (e : Env) (h : Heap) (o : Oper) (a : Act) (w : World) : Prop where
  ops : ∀ x ∈ o.op.operands, ∀ v, evO e x = some v → Rel (Im w h) w v (a.eval x)
  heap : HeapOk h w

/-- The operation yields the datum v, and leaves the memory of the call's own as it is told. -/
def Quiet (P : Program) (o : Oper) (e : Env) (h : Heap) (v : A) : Prop :=
  ∀ a w, Sit e h o a w → Yields P o a w fun u w' => Chg h h w w' ∧ Rel (Im w' h) w' v u

theorem Quiet.of_same {P : Program} {o : Oper} {e : Env} {h : Heap} {v : A}
    (H : ∀ a w, Sit e h o a w → ∃ u, (execOp a.eval o).run P w = .ok (.value u) w ∧ Rel (Im w h) w v u) : Quiet P o e h v := fun a w hs => by
  obtain ⟨u, e1, r⟩ := H a w hs
  unfold Yields
  rw [e1]
  exact ⟨Chg.refl hs.heap, r⟩

/-! #### The data's own operations -/
def wrapI (n : Int) : Int := IntKind.i64.wrap n

/-- A test's outcome. (Not opened by the walk.) -/
noncomputable def dec (p : Prop) : Bool := @decide p (Classical.propDecidable p)
theorem dec_eq (p : Prop) [Decidable p] : dec p = decide p := by unfold dec; congr

noncomputable def bin : BinOp → A → A → Option A
  | .add, .int a, .int b => some (.int (wrapI (a + b)))
  | .sub, .int a, .int b => some (.int (wrapI (a - b)))
  | .mul, .int a, .int b => some (.int (wrapI (a * b)))
  | .lss, .int a, .int b => some (.raw (.bool (dec (a < b))))
  | .leq, .int a, .int b => some (.raw (.bool (dec (a ≤ b))))
  | .gtr, .int a, .int b => some (.raw (.bool (dec (b < a))))
  | .geq, .int a, .int b => some (.raw (.bool (dec (b ≤ a))))
  | .eql, .int a, .int b => some (.raw (.bool (dec (a = b))))
  | .neq, .int a, .int b => some (.raw (.bool (!dec (a = b))))
  | .lss, .u8 a, .u8 b => some (.raw (.bool (dec (a < b))))
  | .leq, .u8 a, .u8 b => some (.raw (.bool (dec (a ≤ b))))
  | .gtr, .u8 a, .u8 b => some (.raw (.bool (dec (b < a))))
  | .geq, .u8 a, .u8 b => some (.raw (.bool (dec (b ≤ a))))
  | .eql, .u8 a, .u8 b => some (.raw (.bool (dec (a = b))))
  | .neq, .u8 a, .u8 b => some (.raw (.bool (!dec (a = b))))
  | .sub, .u8 a, .u8 b => some (.u8 (a - b))
  | .add, .u8 a, .u8 b => some (.u8 (a + b))
  | .eql, .str a, .str b => some (.raw (.bool (dec (a = b))))
  | .neq, .str a, .str b => some (.raw (.bool (!dec (a = b))))
  | _, _, _ => none

noncomputable def binB : BinOp → Bool → Bool → Option A
  | .eql, a, b => some (.raw (.bool (dec (a = b))))
  | .neq, a, b => some (.raw (.bool (!dec (a = b))))
  | _, _, _ => none

def un : UnOp → A → Option A
  | .not, .raw (.bool b) => some (.raw (.bool !b))
  | .neg, .int a => some (.int (wrapI (0 - a)))
  | _, _ => none

def lenA : A → Option A
  | .sl xs => some (.int xs.length)
  | .os _ n _ => some (.int n)
  | _ => none

/-- A value of an interface type that is not nil. -/
def IsIf (v : Value) : Prop := ∃ t u, v = .iface t u

def mapEv (e : Env) : List Operand → Option (List A)
  | [] => some []
  | x :: r => match evO e x, mapEv e r with
    | some v, some vs => some (v :: vs)
    | _, _ => none

/-- The first sz cells (all of them, where there are no more). -/
def takeN {α : Type} (sz : Nat) (cs : List α) : List α := bif Nat.beq sz cs.length then cs else cs.take sz
theorem takeN_eq {α : Type} (sz : Nat) (cs : List α) : takeN sz cs = cs.take sz := by
  unfold takeN
  cases hb : Nat.beq sz cs.length with
  | true => rw [Nat.eq_of_beq_eq_true hb]; simp
  | false => rfl

/-- A variable of type t read off its cells. -/
def loadA (ty : Nat → Option TI) (t : Nat) (cs : List A) : Option A :=
  match ty t with
  | some ⟨sz, .struct _⟩ => bif Nat.ble sz cs.length then some (.agg (takeN sz cs)) else none
  | some ⟨sz, .arr _ _ _⟩ => bif Nat.ble sz cs.length then some (.agg (takeN sz cs)) else none
  | some ⟨_, _⟩ => match cs with | c :: _ => some c | [] => none
  | none => none

def isBoolT (ty : Nat → Option TI) (t : Nat) : Bool := match ty t with | some ⟨_, .bool⟩ => true | _ => false

/-- What an operation without a side condition yields. -/
noncomputable def opVal (ty : Nat → Option TI) (e : Env) : Op → Option A
  | .move x => evO e x
  | .assign x => evO e x
  | .pick c a b => match evO e c with
    | some (.raw (.bool true)) => evO e a
    | some (.raw (.bool false)) => evO e b
    | _ => none
  | .binOp op t x y _ => match evO e x, evO e y with
    | some (.raw (.bool a)), some (.raw (.bool b)) => bif isBoolT ty t then binB op a b else none
    | some a, some b => bin op a b
    | _, _ => none
  | .unOp op _ x => match evO e x with
    | some a => un op a
    | none => none
  | .nilCheck x => match evO e x with
    | some (.ip cs) => some (.ip cs)
    | some (.fn f cs) => some (.fn f cs)
    | some (.op (some b) o) => some (.op (some b) o)
    | some (.raw (.pointer (some p))) => some (.raw (.pointer (some p)))
    | _ => none
  | .fieldAddr s x i => match ty s, evO e x with
    | some ⟨_, .struct fs⟩, some (.ip cs) => match fs[i]? with
      | some (off, sz) => bif Nat.ble (off + sz) cs.length then some (.ip ((cs.drop off).take sz)) else none
      | none => none
    | some ⟨_, .struct fs⟩, some (.op (some b) o) => match fs[i]? with
      | some (off, _) => some (.op (some b) (o + off))
      | none => none
    | _, _ => none
  | .makeInterface t _ => match ty t with
    | some ⟨_, .iface⟩ => none
    | some _ => some (.any IsIf)
    | none => none
  | .convert s d x => match ty s, ty d, evO e x with
    | some ⟨_, .ik _⟩, some ⟨_, .ik .i64⟩, some (.int n) => some (.int n)
    | some ⟨_, .ik _⟩, some ⟨_, .ik .i64⟩, some (.u8 c) => some (.int c.toNat)
    | some ⟨_, .ik _⟩, some ⟨_, .ik .u8⟩, some (.u8 c) => some (.u8 c)
    | some ⟨_, .str⟩, some ⟨_, .str⟩, some (.str s) => some (.str s)
    | _, _, _ => none
  | .load t x => match evO e x with
    | some (.ip cs) => loadA ty t cs
    | _ => none
  | .extract x i => match evO e x with
    | some (.tup vs) => vs[i]?
    | _ => none
  | .makeFunc (.func f) first caps => match first.toList, mapEv e caps.toList with
    | [], some cs => some (.fn f cs)
    | _, _ => none
  | .call ⟨.builtin .len, args, ts⟩ => match args.toList, ts.toList with
    | [x], [t] => match ty t, evO e x with
      | some ⟨_, .slice _ _⟩, some v => lenA v
      | some ⟨_, .str⟩, some (.str s) => some (.int s.length)
      | _, _ => none
    | _, _ => none
  | .call ⟨.builtin .min, args, _⟩ => match args.toList with
    | [x, y] => match evO e x, evO e y with
      | some (.int a), some (.int b) => some (.int (min a b))
      | _, _ => none
    | _ => none
  | .call ⟨.builtin .max, args, _⟩ => match args.toList with
    | [x, y] => match evO e x, evO e y with
      | some (.int a), some (.int b) => some (.int (max a b))
      | _, _ => none
    | _ => none
  | _ => none

theorem Rel.int_inv {S : Nat → Prop} {w : World} {n : Int} {v : Value} (r : Rel S w (.int n) v) : v = .int .i64 n ∧ InR n := by cases r; exact ⟨rfl, by assumption⟩
theorem Rel.str_inv {S : Nat → Prop} {w : World} {s : List UInt8} {v : Value} (r : Rel S w (.str s) v) : v = .string ⟨s.toArray⟩ ∧ s.length ≤ maxLn := by cases r; exact ⟨rfl, by assumption⟩
theorem Rel.u8_inv {S : Nat → Prop} {w : World} {c : UInt8} {v : Value} (r : Rel S w (.u8 c) v) : v = .int .u8 c.toNat := by cases r; rfl
theorem Rel.os_len {S : Nat → Prop} {w : World} {b : Option Nat} {n c : Nat} {v : Value} (r : Rel S w (.os b n c) v) : ∃ a, v = .slice a n c ∧ n ≤ maxLn := by
  cases r with
  | os b n c h => exact ⟨_, rfl, h⟩
  | osn a => exact ⟨a, rfl, Nat.zero_le _⟩
theorem Rel.os_inv {S : Nat → Prop} {w : World} {b n c : Nat} {v : Value} (r : Rel S w (.os (some b) n c) v) : v = .slice (some ⟨b, 0, none⟩) n c ∧ n ≤ maxLn := by cases r; exact ⟨rfl, by assumption⟩
theorem Rel.osn_inv {S : Nat → Prop} {w : World} {n c : Nat} {v : Value} (r : Rel S w (.os none n c) v) : n = 0 ∧ c = 0 ∧ ∃ a, v = .slice a 0 0 := by cases r; exact ⟨rfl, rfl, _, rfl⟩
theorem Rel.op_inv {S : Nat → Prop} {w : World} {b : Option Nat} {o : Nat} {v : Value} (r : Rel S w (.op b o) v) : v = .pointer (b.map fun b => ⟨b, o, none⟩) := by cases r; rfl
theorem Rel.raw_inv {S : Nat → Prop} {w : World} {u v : Value} (r : Rel S w (.raw u) v) : v = u := by cases r; rfl
theorem Rel.ip_inv {S : Nat → Prop} {w : World} {cs : List A} {v : Value} (r : Rel S w (.ip cs) v) : ∃ b off, ∃ V : Nat → Value, v = .pointer (some ⟨b, off, none⟩) ∧ S b ∧
    (∀ j, j < cs.length → w.cell? ⟨b, off + j, none⟩ = some (V j)) ∧ ∀ j (hj : j < cs.length), Rel S w cs[j] (V j) := by
  cases r with | ip _ b off V hS hc hr => exact ⟨b, off, V, rfl, hS, hc, hr⟩
theorem Rel.sl_inv {S : Nat → Prop} {w : World} {xs : List (List A)} {v : Value} (r : Rel S w (.sl xs) v) : ∃ a cap, v = .slice a xs.length cap ∧ xs.length ≤ maxLn ∧ xs.length ≤ cap ∧
    (xs ≠ [] → ∃ b off sz, ∃ V : Nat → Nat → Value, a = some ⟨b, off, none⟩ ∧ S b ∧ (∀ i (hi : i < xs.length), xs[i].length = sz) ∧
      (∀ i j, i < xs.length → j < sz → w.cell? ⟨b, off + (i * sz + j), none⟩ = some (V i j)) ∧ ∀ i j (hi : i < xs.length) (hj : j < xs[i].length), Rel S w (xs[i][j]) (V i j)) := by
  cases r with
  | nil a cap => exact ⟨a, cap, rfl, Nat.zero_le _, Nat.zero_le _, fun h => absurd rfl h⟩
  | sl _ b off cap sz V hS hlen hcap hsz hc hr => exact ⟨_, _, rfl, hlen, hcap, fun _ => ⟨b, off, sz, V, rfl, hS, hsz, hc, hr⟩⟩
theorem Rel.agg_inv {S : Nat → Prop} {w : World} {cs : List A} {v : Value} (r : Rel S w (.agg cs) v) : ∃ vs : List Value, v = .agg vs.toArray ∧ RelL S w cs vs := by
  cases r with | agg _ vs hl hr => exact ⟨vs, rfl, hl, hr⟩
theorem Rel.fn_inv {S : Nat → Prop} {w : World} {f : FuncId} {cs : List A} {v : Value} (r : Rel S w (.fn f cs) v) : ∃ vs : List Value, v = .func (.func f) #[] vs.toArray ∧ RelL S w cs vs := by
  cases r with | fn _ _ vs hl hr => exact ⟨vs, rfl, hl, hr⟩
theorem Rel.tup_inv {S : Nat → Prop} {w : World} {cs : List A} {v : Value} (r : Rel S w (.tup cs) v) : ∃ vs : List Value, v = .tuple vs.toArray ∧ RelL S w cs vs := by
  cases r with | tup _ vs hl hr => exact ⟨vs, rfl, hl, hr⟩
theorem RelL.get {S : Nat → Prop} {w : World} {as : List A} {vs : List Value} (h : RelL S w as vs) {i : Nat} {a : A} (hi : as[i]? = some a) : ∃ v, vs[i]? = some v ∧ Rel S w a v := by
  obtain ⟨h1, h2⟩ := List.getElem?_eq_some_iff.1 hi
  have h3 : i < vs.length := by rw [h.1]; exact h1
  exact ⟨vs[i], List.getElem?_eq_getElem h3, by rw [← h2]; exact h.2 i h1 h3⟩

theorem RelL.mapEv {e : Env} {h : Heap} {a : Act} {w : World} : ∀ {l : List Operand} {vs : List A}, (∀ x ∈ l, ∀ v, evO e x = some v → Rel (Im w h) w v (a.eval x)) → mapEv e l = some vs → RelL (Im w h) w vs (l.map a.eval)
  | [], vs, _, hm => by simp only [AI.mapEv, Option.some.injEq] at hm; subst hm; exact RelL.nil
  | x :: r, vs, H, hm => by
    simp only [AI.mapEv] at hm
    split at hm
    · rename_i v us h1 h2
      simp only [Option.some.injEq] at hm
      subst hm
      exact RelL.cons (H x (by simp) v h1) (RelL.mapEv (fun y hy => H y (by simp [hy])) h2)
    · cases hm

theorem wrapI_in (n : Int) : InR (wrapI n) := by
  unfold wrapI InR IntKind.wrap IntKind.bits IntKind.signed
  simp only [Bool.true_and]
  split <;> rename_i h <;> simp only [decide_eq_true_eq, ge_iff_le] at h <;> omega

theorem u8_lt (a b : UInt8) : decide ((a.toNat : Int) < (b.toNat : Int)) = dec (a < b) := by rw [dec_eq]; rw [Bool.eq_iff_iff]; simp [UInt8.lt_iff_toNat_lt]
theorem u8_le (a b : UInt8) : decide ((a.toNat : Int) ≤ (b.toNat : Int)) = dec (a ≤ b) := by rw [dec_eq]; rw [Bool.eq_iff_iff]; simp [UInt8.le_iff_toNat_le]
theorem u8_eq (a b : UInt8) : ((a.toNat : Int) == (b.toNat : Int)) = dec (a = b) := by
  rw [dec_eq, Bool.eq_iff_iff]
  simp only [beq_iff_eq, decide_eq_true_eq, Int.natCast_inj]
  exact ⟨fun h => UInt8.toNat_inj.1 h, fun h => by rw [h]⟩
theorem str_size (s : List UInt8) : (⟨s.toArray⟩ : ByteArray).size = s.length := by simp [ByteArray.size]
theorem u8_wrap_sub (a b : UInt8) : IntKind.u8.wrap ((a.toNat : Int) - (b.toNat : Int)) = (((a - b).toNat : Nat) : Int) := by
  have h1 := a.toNat_lt; have h2 := b.toNat_lt
  simp [IntKind.wrap, IntKind.bits, IntKind.signed, UInt8.toNat_sub]; omega
theorem u8_wrap_add (a b : UInt8) : IntKind.u8.wrap ((a.toNat : Int) + (b.toNat : Int)) = (((a + b).toNat : Nat) : Int) := by
  have h1 := a.toNat_lt; have h2 := b.toNat_lt
  simp [IntKind.wrap, IntKind.bits, IntKind.signed, UInt8.toNat_add]

theorem ba_toList (a : List UInt8) : (⟨a.toArray⟩ : ByteArray).toList = a := by
  rw [ByteArray.toList_eq]

theorem str_beq (a b : List UInt8) : ((⟨a.toArray⟩ : ByteArray).toList == (⟨b.toArray⟩ : ByteArray).toList) = dec (a = b) := by
  rw [ba_toList, ba_toList, dec_eq, Bool.eq_iff_iff]; simp

theorem bin_run {P : Program} {S : Nat → Prop} {w : World} {op : BinOp} {a b v : A} {x y : Value} (t : TypeId) (h : bin op a b = some v) (ra : Rel S w a x) (rb : Rel S w b y) :
    ∃ u, (∀ o1 o2, (do eqGuard op t o1 o2 x y; binOp op t x y).run P w = .ok u w) ∧ Rel S w v u := by
  cases a with
  | int m =>
    cases b with
    | int k =>
      obtain ⟨rfl, h1⟩ := ra.int_inv; obtain ⟨rfl, h2⟩ := rb.int_inv
      unfold bin at h
      split at h <;> (try (cases h; done)) <;> (try contradiction) <;> simp only [Option.some.injEq, A.int.injEq] at * <;> subst_vars
      · exact ⟨_, fun o1 o2 => by simp [eqGuard, binOp, Op.intArith]; rfl, .int _ (wrapI_in _)⟩
      · exact ⟨_, fun o1 o2 => by simp [eqGuard, binOp, Op.intArith]; rfl, .int _ (wrapI_in _)⟩
      · exact ⟨_, fun o1 o2 => by simp [eqGuard, binOp, Op.intArith]; rfl, .int _ (wrapI_in _)⟩
      · exact ⟨_, fun o1 o2 => by simp [eqGuard, binOp, Op.intCmp, dec_eq], .raw _⟩
      · exact ⟨_, fun o1 o2 => by simp [eqGuard, binOp, Op.intCmp, dec_eq], .raw _⟩
      · exact ⟨_, fun o1 o2 => by simp [eqGuard, binOp, Op.intCmp, dec_eq], .raw _⟩
      · exact ⟨_, fun o1 o2 => by simp [eqGuard, binOp, Op.intCmp, dec_eq], .raw _⟩
      · refine ⟨_, fun o1 o2 => ?_, .raw _⟩
        simp [eqGuard, binOp, Op.intCmp, dec_eq]
        rw [Bool.eq_iff_iff]; simp
      · refine ⟨_, fun o1 o2 => ?_, .raw _⟩
        simp [eqGuard, binOp, Op.intCmp, dec_eq]
        rw [Bool.eq_iff_iff]; simp
    | _ => cases op <;> simp [bin] at h
  | u8 m =>
    cases b with
    | u8 k =>
      obtain rfl := ra.u8_inv; obtain rfl := rb.u8_inv
      unfold bin at h
      split at h <;> (try (cases h; done)) <;> (try contradiction) <;> simp only [Option.some.injEq, A.u8.injEq] at * <;> subst_vars
      · exact ⟨_, fun o1 o2 => by simp only [eqGuard, binOp, Op.intCmp, gt_iff_lt, u8_lt]; simp, .raw _⟩
      · exact ⟨_, fun o1 o2 => by simp only [eqGuard, binOp, Op.intCmp, ge_iff_le, u8_le]; simp, .raw _⟩
      · exact ⟨_, fun o1 o2 => by simp only [eqGuard, binOp, Op.intCmp, gt_iff_lt, u8_lt]; simp, .raw _⟩
      · exact ⟨_, fun o1 o2 => by simp only [eqGuard, binOp, Op.intCmp, ge_iff_le, u8_le]; simp, .raw _⟩
      · exact ⟨_, fun o1 o2 => by simp only [eqGuard, binOp, Op.intCmp, u8_eq]; simp, .raw _⟩
      · exact ⟨_, fun o1 o2 => by simp only [eqGuard, binOp, Op.intCmp, bne, u8_eq]; simp, .raw _⟩
      · exact ⟨_, fun o1 o2 => by simp [eqGuard, binOp, Op.intArith, u8_wrap_sub], .u8 _⟩
      · exact ⟨_, fun o1 o2 => by simp [eqGuard, binOp, Op.intArith, u8_wrap_add], .u8 _⟩
    | _ => cases op <;> simp [bin] at h
  | str m =>
    cases b with
    | str k =>
      obtain ⟨rfl, h1⟩ := ra.str_inv; obtain ⟨rfl, h2⟩ := rb.str_inv
      unfold bin at h
      split at h <;> (try (cases h; done)) <;> (try contradiction) <;> simp only [Option.some.injEq, A.str.injEq] at * <;> subst_vars
      · exact ⟨_, fun o1 o2 => by simp only [eqGuard, binOp, Op.stringOp, str_beq]; simp, .raw _⟩
      · exact ⟨_, fun o1 o2 => by simp only [eqGuard, binOp, Op.stringOp, str_beq]; simp, .raw _⟩
    | _ => cases op <;> simp [bin] at h
  | _ => cases op <;> simp [bin] at h

theorem run_equal_bool {P : Program} {t : Nat} (hu : P.underlying t = some .bool) (a b : Bool) (w : World) : (Op.equal t (.bool a) (.bool b)).run P w = .ok (a == b) w := by
  have e1 : Op.maxDepth = 9999 + 1 := rfl
  unfold Op.equal
  rw [e1]
  unfold Op.equalIn
  simp [underlying, hu]

theorem binB_run {P : Program} {t : Nat} (hu : P.underlying t = some .bool) {op : BinOp} {a b : Bool} {v : A} (h : binB op a b = some v) (w : World) :
    ∃ u, (∀ o1 o2, (do eqGuard op t o1 o2 (.bool a) (.bool b); binOp op t (.bool a) (.bool b)).run P w = .ok (.bool u) w) ∧ v = .raw (.bool u) := by
  have he := run_equal_bool hu a b w
  unfold binB at h
  split at h <;> first | (cases h; done) | (simp only [Option.some.injEq] at h; subst h)
  · refine ⟨_, fun o1 o2 => ?_, rfl⟩
    simp only [eqGuard, binOp, Sem.run_bind, Bool.not_true, Bool.false_eq_true, if_false, he, Result.andThen_ok, Sem.run_pure]
    have : (a == b) = dec (a = b) := by rw [dec_eq, Bool.eq_iff_iff]; simp
    rw [this]
  · refine ⟨_, fun o1 o2 => ?_, rfl⟩
    simp only [eqGuard, binOp, Sem.run_bind, Bool.not_true, Bool.false_eq_true, if_false, he, Result.andThen_ok, Sem.run_pure]
    have : (a == b) = dec (a = b) := by rw [dec_eq, Bool.eq_iff_iff]; simp
    rw [this]

theorem un_run {P : Program} {S : Nat → Prop} {w : World} {op : UnOp} {a v : A} {x : Value} (h : un op a = some v) (ra : Rel S w a x) :
    ∃ u, (Op.unary op x).run P w = .ok u w ∧ Rel S w v u := by
  unfold un at h
  split at h <;> (try (cases h; done)) <;> simp only [Option.some.injEq] at h <;> subst h
  · cases ra.raw_inv; exact ⟨_, by simp [Op.unary], .raw _⟩
  · obtain ⟨rfl, h1⟩ := ra.int_inv
    exact ⟨_, by simp [Op.unary, Op.intArith]; rfl, .int _ (wrapI_in _)⟩

theorem addr_add (b o n : Nat) : (⟨b, o, none⟩ : Addr).add n = ⟨b, o + n, none⟩ := by
  unfold Addr.add; split
  · rename_i h; subst h; rfl
  · rfl

theorem run_fieldAt {P : Program} {s i off sz : Nat} {fs : List (Nat × Nat)} (hT : TKok P s (.struct fs) = true) (hf : fs[i]? = some (off, sz)) (b o : Nat) (w : World) :
    (Instr.fieldAt s (.pointer (some ⟨b, o, none⟩)) i).run P w = .ok (.pointer (some ⟨b, o + off, none⟩)) w := by
  obtain ⟨F, hF, hall⟩ := und_struct hT
  obtain ⟨f, hf1, hf2, hf3, hf4⟩ := hall i _ hf
  have hs := run_sizeOf hf3 w
  simp only at hf2 hf4
  simp [Instr.fieldAt, underlying, hF, hf1, Instr.sureAddr, fieldPlace, hs, hf4, addr_add, hf2]

theorem run_loadCells_at {P : Program} (b o n : Nat) (V : Nat → Value) (w : World) (h : ∀ j, j < n → w.cell? ⟨b, o + j, none⟩ = some (V j)) :
    (loadCells ⟨b, o, none⟩ n).run P w = .ok (((List.range n).map V).toArray) w := by
  have := run_loadCells (P := P) (w := w) ⟨b, o, none⟩ n V (fun j hj => by rw [addr_add]; exact h j hj)
  rw [this]

theorem loadA_cells {P : Program} {ty : Nat → Option TI} (hty : TyOk P ty) {t : Nat} {cs : List A} {v : A} (hv : loadA ty t cs = some v) {S : Nat → Prop} {w : World} {b o : Nat} {V : Nat → Value}
    (hc : ∀ j, j < cs.length → w.cell? ⟨b, o + j, none⟩ = some (V j)) (hr : ∀ j (hj : j < cs.length), Rel S w cs[j] (V j)) :
    ∃ u, (loadVar t ⟨b, o, none⟩).run P w = .ok u w ∧ Rel S w v u := by
  have whole : ∀ (sz : Nat) (k : TK), ty t = some ⟨sz, k⟩ → k.agg = true → (bif Nat.ble sz cs.length then some (A.agg (takeN sz cs)) else none) = some v → ∃ u, (loadVar t ⟨b, o, none⟩).run P w = .ok u w ∧ Rel S w v u := by
    intro sz k hT hk hv
    have hti := hty _ _ hT
    simp only [TIok, Bool.and_eq_true] at hti
    cases hb : Nat.ble sz cs.length with
    | false => rw [hb] at hv; cases hv
    | true =>
      rw [hb] at hv
      simp only [cond_true, Option.some.injEq] at hv
      subst hv
      rw [takeN_eq]
      have hle : sz ≤ cs.length := Nat.le_of_ble_eq_true hb
      have hg := run_isAgg hti.2 w
      have hz := run_sizeOf hti.1 w
      have hl := run_loadCells_at (P := P) b o sz V w (fun j hj => hc j (by omega))
      rw [hk] at hg
      refine ⟨.agg ((List.range sz).map V).toArray, by simp [loadVar, hg, hz, hl], .agg _ _ (by simp; omega) (fun j hj hj' => ?_)⟩
      simp at hj
      simpa using hr j (by omega)
  have one : ∀ (sz : Nat) (k : TK) (c : A) (rest : List A), ty t = some ⟨sz, k⟩ → k.agg = false → cs = c :: rest → c = v → ∃ u, (loadVar t ⟨b, o, none⟩).run P w = .ok u w ∧ Rel S w v u := by
    intro sz k c rest hT hk hcs hcv
    subst hcs; subst hcv
    have hti := hty _ _ hT
    simp only [TIok, Bool.and_eq_true] at hti
    have h0 := hc 0 (by simp)
    have hg := run_isAgg hti.2 w
    rw [hk] at hg
    simp only [Nat.add_zero] at h0
    exact ⟨V 0, by simp [loadVar, hg, h0], hr 0 (by simp)⟩
  unfold loadA at hv
  split at hv
  · rename_i sz fs hT; exact whole sz _ hT rfl hv
  · rename_i sz p q r hT; exact whole sz _ hT rfl hv
  · rename_i sz k n1 n2 hT
    split at hv
    · rename_i c rest
      simp only [Option.some.injEq] at hv
      refine one sz k c rest hT ?_ rfl hv
      cases k with
      | struct fs => exact (n1 _ rfl).elim
      | arr a b c => exact (n2 _ _ _ rfl).elim
      | _ => rfl
    · cases hv
  · cases hv

theorem run_notIface {P : Program} {t : Nat} {k : TK} (h : TKok P t k = true) (hn : k ≠ .iface) (v : Value) (w : World) : (Instr.makeInterface t v).run P w = .ok (.iface t v) w := by
  cases k with
  | scalar =>
    simp only [TKok] at h
    cases hu : P.underlying t with
    | none => rw [hu] at h; cases h
    | some d =>
      rw [hu] at h
      cases d <;> first | (cases h; done) | simp [Instr.makeInterface, underlying, hu]
  | bool => simp [Instr.makeInterface, underlying, und_bool h]
  | str => simp [Instr.makeInterface, underlying, und_str h]
  | ik k => simp [Instr.makeInterface, underlying, und_ik h]
  | iface => exact absurd rfl hn
  | struct fs => obtain ⟨F, hF, _⟩ := und_struct h; simp [Instr.makeInterface, underlying, hF]
  | slice e z => simp [Instr.makeInterface, underlying, (und_slice h).1]
  | arr n e z => simp [Instr.makeInterface, underlying, (und_arr h).1]
theorem wrap64_in {m : Int} (h : InR m) : IntKind.i64.wrap m = m := by
  unfold InR at h
  unfold IntKind.wrap IntKind.bits IntKind.signed
  simp only [Bool.true_and]
  split <;> rename_i hx <;> simp only [decide_eq_true_eq, ge_iff_le] at hx <;> omega
theorem u8_wrap (c : UInt8) : IntKind.u8.wrap (c.toNat : Int) = (c.toNat : Int) := by
  have := c.toNat_lt
  simp [IntKind.wrap, IntKind.bits, IntKind.signed]; omega

theorem opVal_quiet {P : Program} {ty : Nat → Option TI} (hty : TyOk P ty) {o : Oper} {e : Env} {h : Heap} {v : A} (hv : opVal ty e o.op = some v) : Quiet P o e h v := by
  apply Quiet.of_same
  intro a w hs
  obtain ⟨hops, _⟩ := hs
  generalize ho : o.op = op at hv hops
  unfold opVal at hv
  split at hv
  · -- move
    exact ⟨_, by simp [execOp, ho], hops _ (by simp [Op.operands]) _ hv⟩
  · -- assign
    exact ⟨_, by simp [execOp, ho], hops _ (by simp [Op.operands]) _ hv⟩
  · -- pick
    rename_i c x y
    split at hv
    · rename_i hc
      have rc := (hops c (by simp [Op.operands]) _ hc).raw_inv
      exact ⟨_, by simp [execOp, ho, rc, asBool], hops _ (by simp [Op.operands]) _ hv⟩
    · rename_i hc
      have rc := (hops c (by simp [Op.operands]) _ hc).raw_inv
      exact ⟨_, by simp [execOp, ho, rc, asBool], hops _ (by simp [Op.operands]) _ hv⟩
    · cases hv
  · -- binOp
    rename_i op t x y t2
    split at hv
    · rename_i u1 u2 h1 h2
      have e1 := (hops x (by simp [Op.operands]) _ h1).raw_inv
      have e2 := (hops y (by simp [Op.operands]) _ h2).raw_inv
      cases hb : isBoolT ty t with
      | false => rw [hb] at hv; cases hv
      | true =>
        rw [hb] at hv
        simp only [cond_true] at hv
        have hu : P.underlying t = some .bool := by
          unfold isBoolT at hb
          split at hb
          · rename_i q hq
            have hti := hty _ _ hq
            simp only [TIok, Bool.and_eq_true] at hti
            exact und_bool hti.2
          · cases hb
        obtain ⟨u, hrun, rfl⟩ := binB_run hu hv w
        refine ⟨_, ?_, .raw _⟩
        have := hrun x y
        simp only [execOp, ho, e1, e2]
        rw [Sem.run_bind, this]; rfl
    · rename_i u1 u2 _ h1 h2
      obtain ⟨u, hu, r⟩ := bin_run (P := P) t hv (hops x (by simp [Op.operands]) _ h1) (hops y (by simp [Op.operands]) _ h2)
      refine ⟨u, ?_, r⟩
      have := hu x y
      simp only [execOp, ho]
      rw [Sem.run_bind, this]; rfl
    · cases hv
  · -- unOp
    rename_i op t x
    split at hv
    · rename_i u1 h1
      obtain ⟨u, hu, r⟩ := un_run (P := P) hv (hops x (by simp [Op.operands]) _ h1)
      exact ⟨u, by simp [execOp, ho, hu], r⟩
    · cases hv
  · -- nilCheck
    rename_i x
    split at hv <;> first | (cases hv; done) | (simp only [Option.some.injEq] at hv; subst hv)
    rotate_left 2
    · rename_i b o' hx
      have r := hops x (by simp [Op.operands]) _ hx
      have e1 := r.op_inv
      simp only [Option.map_some] at e1
      exact ⟨_, by simp [execOp, ho, e1], .op (some b) o'⟩
    rotate_left 1
    · rename_i cs hx
      have r := hops x (by simp [Op.operands]) _ hx
      obtain ⟨b, off, V, e1, _⟩ := r.ip_inv
      rw [e1] at r
      exact ⟨_, by simp [execOp, ho, e1], r⟩
    · rename_i f cs hx
      have r := hops x (by simp [Op.operands]) _ hx
      obtain ⟨vs, e1, _⟩ := r.fn_inv
      rw [e1] at r
      exact ⟨_, by simp [execOp, ho, e1], r⟩
    · rename_i p hx
      have r := hops x (by simp [Op.operands]) _ hx
      have e1 := r.raw_inv
      rw [e1] at r
      exact ⟨_, by simp [execOp, ho, e1], r⟩
  · -- fieldAddr
    rename_i s x i
    split at hv
    · rename_i sz fs cs hT hx
      have hti := hty _ _ hT
      simp only [TIok, Bool.and_eq_true] at hti
      split at hv
      · rename_i off z hf
        cases hb : Nat.ble (off + z) cs.length with
        | false => rw [hb] at hv; cases hv
        | true =>
          rw [hb] at hv
          simp only [cond_true, Option.some.injEq] at hv
          subst hv
          have hle : off + z ≤ cs.length := Nat.le_of_ble_eq_true hb
          obtain ⟨b, o', V, e1, hS, hc, hr⟩ := (hops x (by simp [Op.operands]) _ hx).ip_inv
          refine ⟨.pointer (some ⟨b, o' + off, none⟩), ?_, ?_⟩
          · have := run_fieldAt hti.2 hf b o' w
            simp [execOp, ho, e1, this]
          · refine .ip _ b (o' + off) (fun j => V (off + j)) hS (fun j hj => ?_) (fun j hj => ?_)
            · have : j < cs.length - off := by simp at hj; omega
              rw [Nat.add_assoc]; exact hc (off + j) (by omega)
            · have : j < cs.length - off := by simp at hj; omega
              have := hr (off + j) (by omega)
              simpa using this
      · cases hv
    · rename_i sz fs b o' hT hx
      have hti := hty _ _ hT
      simp only [TIok, Bool.and_eq_true] at hti
      split at hv
      · rename_i off z hf
        simp only [Option.some.injEq] at hv
        subst hv
        have e1 := (hops x (by simp [Op.operands]) _ hx).op_inv
        simp only [Option.map_some] at e1
        refine ⟨.pointer (some ⟨b, o' + off, none⟩), ?_, .op (some b) (o' + off)⟩
        have := run_fieldAt hti.2 hf b o' w
        simp [execOp, ho, e1, this]
      · cases hv
    · cases hv
  · -- makeInterface
    rename_i t x
    split at hv
    · cases hv
    · rename_i q hne hT
      simp only [Option.some.injEq] at hv
      subst hv
      have hti := hty _ _ hT
      simp only [TIok, Bool.and_eq_true] at hti
      refine ⟨.iface t (a.eval x), ?_, .any _ _ ⟨_, _, rfl⟩⟩
      have := run_notIface hti.2 (by intro hk; cases q; simp only at hk; subst hk; exact hne _ rfl) (a.eval x) w
      simp [execOp, ho, this]
    · cases hv
  · -- convert
    rename_i s d x
    split at hv <;> first | (cases hv; done) | (simp only [Option.some.injEq] at hv; subst hv)
    · rename_i n hT1 hT2 hx
      have h1 := hty _ _ hT1; have h2 := hty _ _ hT2
      simp only [TIok, Bool.and_eq_true] at h1 h2
      obtain ⟨e1, r1⟩ := (hops x (by simp [Op.operands]) _ hx).int_inv
      exact ⟨.int .i64 n, by simp [execOp, ho, e1, convert, underlying, und_ik h1.2, und_ik h2.2, Conv.intToInt, wrap64_in r1], .int _ r1⟩
    · rename_i c hT1 hT2 hx
      have h1 := hty _ _ hT1; have h2 := hty _ _ hT2
      simp only [TIok, Bool.and_eq_true] at h1 h2
      have e1 := (hops x (by simp [Op.operands]) _ hx).u8_inv
      have hc := c.toNat_lt
      have r1 : InR c.toNat := ⟨by omega, by omega⟩
      exact ⟨.int .i64 c.toNat, by simp [execOp, ho, e1, convert, underlying, und_ik h1.2, und_ik h2.2, Conv.intToInt, wrap64_in r1], .int _ r1⟩
    · rename_i c hT1 hT2 hx
      have h1 := hty _ _ hT1; have h2 := hty _ _ hT2
      simp only [TIok, Bool.and_eq_true] at h1 h2
      have e1 := (hops x (by simp [Op.operands]) _ hx).u8_inv
      exact ⟨.int .u8 c.toNat, by simp [execOp, ho, e1, convert, underlying, und_ik h1.2, und_ik h2.2, Conv.intToInt, u8_wrap], .u8 _⟩
    · rename_i s hT1 hT2 hx
      have h1 := hty _ _ hT1; have h2 := hty _ _ hT2
      simp only [TIok, Bool.and_eq_true] at h1 h2
      obtain ⟨e1, r1⟩ := (hops x (by simp [Op.operands]) _ hx).str_inv
      exact ⟨.string ⟨s.toArray⟩, by simp [execOp, ho, e1, convert, underlying, und_str h1.2, und_str h2.2], .str _ r1⟩
  · -- load
    rename_i t x
    split at hv
    · rename_i cs hx
      obtain ⟨b, o', V, e1, hS, hc, hr⟩ := (hops x (by simp [Op.operands]) _ hx).ip_inv
      obtain ⟨u, hu, ru⟩ := loadA_cells (P := P) hty hv hc hr
      exact ⟨u, by simp [execOp, ho, e1, Instr.loadAt, Instr.sureAddr, hu], ru⟩
    · cases hv
  · -- extract
    rename_i x i
    split at hv
    · rename_i vs hx
      obtain ⟨us, e1, r⟩ := (hops x (by simp [Op.operands]) _ hx).tup_inv
      obtain ⟨u, hu, ru⟩ := r.get hv
      refine ⟨u, ?_, ru⟩
      simp [execOp, ho, e1, Instr.extract, hu]
    · cases hv
  · -- makeFunc
    rename_i f first caps
    split at hv
    · rename_i cs hf hc
      simp only [Option.some.injEq] at hv
      subst hv
      have hf' : first = #[] := by apply Array.ext'; simpa using hf
      subst hf'
      have r := RelL.mapEv (a := a) (w := w) (h := h) (fun x hx => hops x (by simp [Op.operands, Array.mem_toList_iff.1 hx])) hc
      refine ⟨.func (.func f) #[] (caps.toList.map a.eval).toArray, ?_, .fn f cs _ r.1 r.2⟩
      have hm : caps.map a.eval = (caps.toList.map a.eval).toArray := by apply Array.ext'; simp
      simp only [execOp, ho, Instr.makeFunc, ← hm]
      simp
    · cases hv
  · -- len
    rename_i args ts
    split at hv
    · rename_i x t hx ht
      split at hv
      · rename_i q q1 q2 u hT hx'
        have hti := hty _ _ hT
        simp only [TIok, Bool.and_eq_true] at hti
        have hx2 : args = #[x] := by apply Array.ext'; simpa using hx
        have ht2 : ts = #[t] := by apply Array.ext'; simpa using ht
        subst hx2; subst ht2
        unfold lenA at hv
        split at hv
        · rename_i xs
          simp only [Option.some.injEq] at hv
          subst hv
          obtain ⟨p, cap, e1, hl, _⟩ := (hops x (by simp [Op.operands, Call.operands]) _ hx').sl_inv
          refine ⟨.int .i64 xs.length, ?_, .int _ ⟨by omega, by unfold maxLn at hl; omega⟩⟩
          simp [execOp, ho, resolve, invoke, builtin, Builtin.len_, underlying, (und_slice hti.2).1, e1, goInt]
        · rename_i b n c
          simp only [Option.some.injEq] at hv
          subst hv
          obtain ⟨p, e1, hl⟩ := (hops x (by simp [Op.operands, Call.operands]) _ hx').os_len
          refine ⟨.int .i64 n, ?_, .int _ ⟨by omega, by unfold maxLn at hl; omega⟩⟩
          simp [execOp, ho, resolve, invoke, builtin, Builtin.len_, underlying, (und_slice hti.2).1, e1, goInt]
        · cases hv
      · rename_i q s hT hx'
        simp only [Option.some.injEq] at hv
        subst hv
        have hti := hty _ _ hT
        simp only [TIok, Bool.and_eq_true] at hti
        have hx2 : args = #[x] := by apply Array.ext'; simpa using hx
        have ht2 : ts = #[t] := by apply Array.ext'; simpa using ht
        subst hx2; subst ht2
        obtain ⟨e1, hl⟩ := (hops x (by simp [Op.operands, Call.operands]) _ hx').str_inv
        refine ⟨.int .i64 s.length, ?_, .int _ ⟨by omega, by unfold maxLn at hl; omega⟩⟩
        simp [execOp, ho, resolve, invoke, builtin, Builtin.len_, underlying, und_str hti.2, e1, goInt, str_size]
      · cases hv
    · cases hv
  · -- min
    rename_i args ts
    split at hv
    · rename_i x y hx
      split at hv
      · rename_i m k h1 h2
        simp only [Option.some.injEq] at hv
        subst hv
        have hx2 : args = #[x, y] := by apply Array.ext'; simpa using hx
        subst hx2
        obtain ⟨e1, r1⟩ := (hops x (by simp [Op.operands, Call.operands]) _ h1).int_inv
        obtain ⟨e2, r2⟩ := (hops y (by simp [Op.operands, Call.operands]) _ h2).int_inv
        have hm : (if k < m then k else m) = min m k := by rw [Int.min_def]; split <;> split <;> omega
        refine ⟨.int .i64 (min m k), ?_, .int _ ?_⟩
        · simp [execOp, ho, resolve, invoke, builtin, Builtin.min_, Builtin.min2, e1, e2, hm]
        · rw [← hm]; split <;> assumption
      · cases hv
    · cases hv
  · -- max
    rename_i args ts
    split at hv
    · rename_i x y hx
      split at hv
      · rename_i m k h1 h2
        simp only [Option.some.injEq] at hv
        subst hv
        have hx2 : args = #[x, y] := by apply Array.ext'; simpa using hx
        subst hx2
        obtain ⟨e1, r1⟩ := (hops x (by simp [Op.operands, Call.operands]) _ h1).int_inv
        obtain ⟨e2, r2⟩ := (hops y (by simp [Op.operands, Call.operands]) _ h2).int_inv
        have hm : (if m < k then k else m) = max m k := by rw [Int.max_def]; split <;> split <;> omega
        refine ⟨.int .i64 (max m k), ?_, .int _ ?_⟩
        · simp [execOp, ho, resolve, invoke, builtin, Builtin.max_, Builtin.max2, e1, e2, hm]
        · rw [← hm]; split <;> assumption
      · cases hv
    · cases hv
  · cases hv

theorem wrapI_of {m : Int} (h : InR m) : wrapI m = m := by
  unfold InR at h
  unfold wrapI IntKind.wrap IntKind.bits IntKind.signed
  simp only [Bool.true_and]
  split <;> rename_i hx <;> simp only [decide_eq_true_eq, ge_iff_le] at hx <;> omega
theorem dec_t {p : Prop} (h : p) : dec p = true := by unfold dec; simp [h]
theorem dec_f {p : Prop} (h : ¬p) : dec p = false := by unfold dec; simp [h]
theorem dec_iff {p : Prop} : dec p = true ↔ p := by unfold dec; simp
theorem wrap64_of {m : Int} (h : InR m) : IntKind.i64.wrap m = m := wrapI_of h
attribute [irreducible] dec wrapI
end Go.AI
