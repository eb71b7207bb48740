/-
  The symbolic executor: regions, code, calls.
-/
import Derived.Test.YtfkginobkobihaaDoorSxL
import Derived.LoopN
import Derived.Scope
namespace Go.Sx
noncomputable section

/-! ### Are two values spelled alike? -/

def cEq : SCap → SCap → Bool
  | .lit a, .lit b => decide (a = b)
  | .sub a d, .sub b e => decide (a = b) && decide (d = e)
  | _, _ => false

mutual
def svEq : SV → SV → Bool
  | .v (.int k a), .v (.int k' b) => kEq k k' && decide (a = b)
  | .v (.bool a), .v (.bool b) => decide (a = b)
  | .v (.string a), .v (.string b) => decide (a.data.toList = b.data.toList)
  | .v (.pointer a), .v (.pointer b) => decide (a = b)
  | .v (.slice a l c), .v (.slice b m d) => decide (a = b) && decide (l = m) && decide (c = d)
  | .v (.map a), .v (.map b) => decide (a = b)
  | .v .nilFunc, .v .nilFunc => true
  | .v .nilIface, .v .nilIface => true
  | .str l, .str m => decide (l = m)
  | .ptr b o, .ptr b' o' => decide (b = b') && decide (o = o')
  | .slc b o l c, .slc b' o' l' c' => decide (b = b') && decide (o = o') && decide (l = l') && cEq c c'
  | .mp b, .mp b' => decide (b = b')
  | .agg xs, .agg ys => svEqs xs ys
  | .tup xs, .tup ys => svEqs xs ys
  | .ifc t x, .ifc u y => decide (t = u) && svEq x y
  | .fn f xs, .fn g ys => decide (f = g) && svEqs xs ys
  | _, _ => false
def svEqs : List SV → List SV → Bool
  | [], [] => true
  | x :: xs, y :: ys => svEq x y && svEqs xs ys
  | _, _ => false
end

theorem cEq_eq {a b : SCap} (h : cEq a b = true) : a = b := by
  cases a <;> cases b <;> simp [cEq] at h
  · rw [h]
  · rw [h.1, h.2]

mutual
theorem svEq_eq : ∀ (x y : SV), svEq x y = true → x = y
  | .v x, .v y, h => by
    cases x <;> cases y <;> simp [svEq, kEq_iff] at h <;> first
      | rfl
      | (rw [h]; done)
      | (rw [h.1, h.2]; done)
      | (obtain ⟨⟨h1, h2⟩, h3⟩ := h; rw [h1, h2, h3]; done)
      | (congr 2; exact ByteArray.ext (Array.toList_inj.1 h))
      | (congr 2; exact ByteArray.ext h)
  | .str _, .str _, h => by simp only [svEq, decide_eq_true_eq] at h; rw [h]
  | .ptr _ _, .ptr _ _, h => by simp only [svEq, Bool.and_eq_true, decide_eq_true_eq] at h; rw [h.1, h.2]
  | .slc _ _ _ _, .slc _ _ _ _, h => by
    simp only [svEq, Bool.and_eq_true, decide_eq_true_eq] at h
    obtain ⟨⟨⟨h1, h2⟩, h3⟩, h4⟩ := h
    rw [h1, h2, h3, cEq_eq h4]
  | .mp _, .mp _, h => by simp only [svEq, decide_eq_true_eq] at h; rw [h]
  | .agg xs, .agg ys, h => by simp only [svEq] at h; rw [svEqs_eq xs ys h]
  | .tup xs, .tup ys, h => by simp only [svEq] at h; rw [svEqs_eq xs ys h]
  | .ifc _ x, .ifc _ y, h => by simp only [svEq, Bool.and_eq_true, decide_eq_true_eq] at h; rw [h.1, svEq_eq x y h.2]
  | .fn _ xs, .fn _ ys, h => by simp only [svEq, Bool.and_eq_true, decide_eq_true_eq] at h; rw [h.1, svEqs_eq xs ys h.2]
  | .v _, .str _, h | .v _, .ptr _ _, h | .v _, .slc _ _ _ _, h | .v _, .mp _, h | .v _, .agg _, h | .v _, .tup _, h | .v _, .ifc _ _, h | .v _, .fn _ _, h => by simp [svEq] at h
  | .str _, .v _, h | .str _, .ptr _ _, h | .str _, .slc _ _ _ _, h | .str _, .mp _, h | .str _, .agg _, h | .str _, .tup _, h | .str _, .ifc _ _, h | .str _, .fn _ _, h => by simp [svEq] at h
  | .ptr _ _, .v _, h | .ptr _ _, .str _, h | .ptr _ _, .slc _ _ _ _, h | .ptr _ _, .mp _, h | .ptr _ _, .agg _, h | .ptr _ _, .tup _, h | .ptr _ _, .ifc _ _, h | .ptr _ _, .fn _ _, h => by simp [svEq] at h
  | .slc _ _ _ _, .v _, h | .slc _ _ _ _, .str _, h | .slc _ _ _ _, .ptr _ _, h | .slc _ _ _ _, .mp _, h | .slc _ _ _ _, .agg _, h | .slc _ _ _ _, .tup _, h | .slc _ _ _ _, .ifc _ _, h | .slc _ _ _ _, .fn _ _, h => by simp [svEq] at h
  | .mp _, .v _, h | .mp _, .str _, h | .mp _, .ptr _ _, h | .mp _, .slc _ _ _ _, h | .mp _, .agg _, h | .mp _, .tup _, h | .mp _, .ifc _ _, h | .mp _, .fn _ _, h => by simp [svEq] at h
  | .agg _, .v _, h | .agg _, .str _, h | .agg _, .ptr _ _, h | .agg _, .slc _ _ _ _, h | .agg _, .mp _, h | .agg _, .tup _, h | .agg _, .ifc _ _, h | .agg _, .fn _ _, h => by simp [svEq] at h
  | .tup _, .v _, h | .tup _, .str _, h | .tup _, .ptr _ _, h | .tup _, .slc _ _ _ _, h | .tup _, .mp _, h | .tup _, .agg _, h | .tup _, .ifc _ _, h | .tup _, .fn _ _, h => by simp [svEq] at h
  | .ifc _ _, .v _, h | .ifc _ _, .str _, h | .ifc _ _, .ptr _ _, h | .ifc _ _, .slc _ _ _ _, h | .ifc _ _, .mp _, h | .ifc _ _, .agg _, h | .ifc _ _, .tup _, h | .ifc _ _, .fn _ _, h => by simp [svEq] at h
  | .fn _ _, .v _, h | .fn _ _, .str _, h | .fn _ _, .ptr _ _, h | .fn _ _, .slc _ _ _ _, h | .fn _ _, .mp _, h | .fn _ _, .agg _, h | .fn _ _, .tup _, h | .fn _ _, .ifc _ _, h => by simp [svEq] at h
theorem svEqs_eq : ∀ (l m : List SV), svEqs l m = true → l = m
  | [], [], _ => rfl
  | x :: xs, y :: ys, h => by simp only [svEqs, Bool.and_eq_true] at h; rw [svEq_eq x y h.1, svEqs_eq xs ys h.2]
  | [], _ :: _, h => by simp [svEqs] at h
  | _ :: _, [], h => by simp [svEqs] at h
end

/-! ### Slots and guards -/

def natK (n : Nat) (k : Nat → Bool) : Bool := Nat.rec (motive := fun _ => Bool) (k 0) (fun m _ => k (Nat.succ m)) n
theorem natK_eq (n : Nat) (k : Nat → Bool) : natK n k = k n := by cases n <;> rfl

def shutC (c : SCap) (k : SCap → Bool) : Bool := match c with
  | .lit c => natK c fun c => k (.lit c)
  | .sub b d => natK b fun b => natK d fun d => k (.sub b d)

/-- A value whose numbers are laid out. -/
def shutV (x : SV) (k : SV → Bool) : Bool := match x with
  | .ptr b o => natK b fun b => natK o fun o => k (.ptr b o)
  | .slc b o l c => natK b fun b => natK o fun o => natK l fun l => shutC c fun c => k (.slc b o l c)
  | .mp b => natK b fun b => k (.mp b)
  | x => k x

theorem shutV_eq (x : SV) (k : SV → Bool) : shutV x k = k x := by
  cases x with
  | ptr b o => simp only [shutV, natK_eq]
  | slc b o l c => cases c <;> simp only [shutV, shutC, natK_eq]
  | mp b => simp only [shutV, natK_eq]
  | _ => rfl

def shutH (h : HS) (k : HS → Bool) : Bool := match h with
  | ⟨H, nx, M⟩ => natK nx fun nx => k ⟨H, nx, M⟩

theorem shutH_eq (h : HS) (k : HS → Bool) : shutH h k = k h := by
  cases h; simp only [shutH, natK_eq]

def setDst (sz : Nat) (dst : Option Tmp) (v : SV) (F : T SV → Bool) (tm : T SV) : Bool :=
  match dst with
  | none => F tm
  | some d => bif Nat.blt d sz then shutV v (fun v => F (tm.set d v)) else false

theorem setDst_rel {sz : Nat} {dst : Option Tmp} {v : SV} {F : T SV → Bool} {tm : T SV} (h : setDst sz dst v F tm) {ρ : Nat → Loc} {nx : Nat} {a : Act} (A : ARel ρ tm sz nx a) (hv : v.lt ρ nx) :
    ∃ tm', F tm' ∧ ARel ρ tm' sz nx (a.put dst (v.den ρ)) := by
  unfold setDst at h
  split at h
  · exact ⟨tm, h, A⟩
  · rename_i d
    cases hb : Nat.blt d sz with
    | false => rw [hb] at h; exact absurd h Bool.false_ne_true
    | true => rw [hb] at h; rw [cond_true, shutV_eq] at h; exact ⟨_, h, A.put hv (Nat.le_of_ble_eq_true hb)⟩

/-- Is an operation wanted? What its guard yields is written out in the slot. -/
def guardP (ops : Array Oper) (o : Oper) (tm : T SV) (F : Bool → T SV → Bool) : Bool :=
  match o.guard with
  | none => F true tm
  | some (j, want) => match (ops[j]?).bind (·.dst) with
    | none => false
    | some d => match tm.get d with
      | some (.v (.bool t)) => bif t then F want (tm.set d (.v (.bool true))) else F (!want) (tm.set d (.v (.bool false)))
      | some (.v (.tuple _)) => F false tm
      | _ => false

theorem guardP_rel {ops : Array Oper} {o : Oper} {tm : T SV} {F : Bool → T SV → Bool} (h : guardP ops o tm F) {ρ : Nat → Loc} {sz nx : Nat} {a : Act} (A : ARel ρ tm sz nx a) :
    ∃ b tm', F b tm' ∧ ARel ρ tm' sz nx a ∧ Region.wanted o (yielded ops a.tmps) = b := by
  unfold guardP at h
  split at h
  · rename_i hg
    exact ⟨true, tm, h, A, by simp [Region.wanted, hg]⟩
  · rename_i j want hg
    split at h
    · exact absurd h Bool.false_ne_true
    · rename_i d hd
      split at h
      · rename_i t ht
        obtain ⟨_, h2⟩ := A.at_ d _ ht
        have hy : yielded ops a.tmps j = some t := by simp [yielded, hd, h2, SV.den]
        cases t with
        | true =>
          refine ⟨want, _, h, A.same ht rfl trivial, ?_⟩
          simp only [Region.wanted, hg, hy]; cases want <;> rfl
        | false =>
          refine ⟨!want, _, h, A.same ht rfl trivial, ?_⟩
          simp only [Region.wanted, hg, hy]; cases want <;> rfl
      · rename_i vs ht
        obtain ⟨_, h2⟩ := A.at_ d _ ht
        have hy : yielded ops a.tmps j = none := by simp [yielded, hd, h2, SV.den]
        exact ⟨false, tm, h, A, by simp only [Region.wanted, hg, hy]; cases want <;> rfl⟩
      · exact absurd h Bool.false_ne_true

/-! ### Operations in the text's order -/

def svUndef : SV := .v (.tuple #[])

def sxOp (P : Program) (call : CallT) (sz : Nat) (o : Oper) (K : T SV → HS → Bool) (tm : T SV) (h : HS) : Bool :=
  match pureV P tm o.op with
  | some (r, v) => bif r then setDst sz o.dst v (fun tm => K tm h) tm else false
  | none => match readV P tm h o.op with
    | some v => setDst sz o.dst v (fun tm => K tm h) tm
    | none => effV P call tm h o.op fun v h' => setDst sz o.dst v (fun tm => K tm h') tm

def sxOps (P : Program) (call : CallT) (sz : Nat) (ops : Array Oper) (K : T SV → HS → Bool) : List Oper → T SV → HS → Bool
  | [], tm, h => K tm h
  | o :: rest, tm, h => guardP ops o tm fun run tm =>
    bif run then sxOp P call sz o (fun tm h => sxOps P call sz ops K rest tm h) tm h
    else setDst sz o.dst svUndef (fun tm => sxOps P call sz ops K rest tm h) tm

/-- What is left of a state: K holds of it, and it goes on from where one was. -/
def Goes (ρ : Nat → Loc) (h : HS) (sz : Nat) (K : T SV → HS → Bool) (a' : Act) (w' : World) : Prop :=
  ∃ tm' h' ρ', K tm' h' ∧ ARel ρ' tm' sz h'.nx a' ∧ HRel ρ' h' w' ∧ Ext ρ ρ' h.nx ∧ h.nx ≤ h'.nx ∧ h.M.le h'.M

theorem Goes.trans {ρ ρ' : Nat → Loc} {h h' : HS} {sz : Nat} {K : T SV → HS → Bool} {a : Act} {w : World} (g : Goes ρ' h' sz K a w) (hx : Ext ρ ρ' h.nx) (hn : h.nx ≤ h'.nx) (hm : h.M.le h'.M) : Goes ρ h sz K a w := by
  obtain ⟨tm2, h2, ρ2, k, A, H, x, n, m⟩ := g
  exact ⟨tm2, h2, ρ2, k, A, H, hx.trans x hn, Nat.le_trans hn n, Mem.le_trans hm m⟩

theorem sxOp_wp {P : Program} {call : CallT} (CS : CallSound P call) {sz : Nat} {o : Oper} {K : T SV → HS → Bool} {tm : T SV} {h : HS} (hk : sxOp P call sz o K tm h) {ρ : Nat → Loc} {a : Act} {w : World}
    (A : ARel ρ tm sz h.nx a) (H : HRel ρ h w) {next : Act → World → Prop} {Q : Exit → Act → World → Prop} (hn : ∀ a' w', Goes ρ h sz K a' w' → next a' w') : o.wp P a w next Q := by
  unfold sxOp at hk
  split at hk
  · rename_i r v hp
    cases r with
    | false => exact absurd hk Bool.false_ne_true
    | true =>
      simp only [cond_true] at hk
      obtain ⟨h1, h2⟩ := pureV_run hp rfl A o rfl w
      obtain ⟨tm', hk', A'⟩ := setDst_rel hk A h2
      unfold Oper.wp
      rw [h1, Oper.upon_value]
      exact hn _ _ ⟨tm', h, ρ, hk', A', H, Ext.refl _ _, Nat.le_refl _, Mem.le_refl _⟩
  · split at hk
    · rename_i v hr
      obtain ⟨h1, h2⟩ := readV_run hr A H o rfl
      obtain ⟨tm', hk', A'⟩ := setDst_rel hk A h2
      unfold Oper.wp
      rw [h1, Oper.upon_value]
      exact hn _ _ ⟨tm', h, ρ, hk', A', H, Ext.refl _ _, Nat.le_refl _, Mem.le_refl _⟩
    · refine effV_wp CS hk A H o rfl fun v w' ⟨z, h', ρ', hz, hv, hlt, H', hx, hnx, hm⟩ => ?_
      subst hv
      obtain ⟨tm', hk', A'⟩ := setDst_rel hz (A.ext hx hnx) hlt
      exact hn _ _ ⟨tm', h', ρ', hk', A', H', hx, hnx, hm⟩

theorem sxOps_wp {P : Program} {call : CallT} (CS : CallSound P call) {sz : Nat} {ops : Array Oper} {K : T SV → HS → Bool} {Q : Exit → Act → World → Prop} : ∀ (l : List Nat) (os : List Oper), l.map (fun i => ops[i]?) = os.map some →
    ∀ {tm : T SV} {h : HS}, sxOps P call sz ops K os tm h → ∀ {ρ : Nat → Loc} {a : Act} {w : World}, ARel ρ tm sz h.nx a → HRel ρ h w → (∀ a' w', Goes ρ h sz K a' w' → Q .normal a' w') → wpOps P ops Q l a w := by
  intro l
  induction l with
  | nil =>
    intro os hos tm h hk ρ a w A H hn
    cases os with
    | nil => exact hn a w ⟨tm, h, ρ, hk, A, H, Ext.refl _ _, Nat.le_refl _, Mem.le_refl _⟩
    | cons o os => simp at hos
  | cons i l ih =>
    intro os hos tm h hk ρ a w A H hn
    cases os with
    | nil => simp at hos
    | cons o os =>
      simp only [List.map_cons, List.cons.injEq] at hos
      obtain ⟨hi, hos⟩ := hos
      simp only [wpOps, hi]
      simp only [sxOps] at hk
      obtain ⟨b, tm', hk', A', hw⟩ := guardP_rel hk A
      rw [hw]
      cases b with
      | true =>
        simp only [if_true]
        refine .inl (sxOp_wp CS hk' A' H fun a' w' g => ?_)
        obtain ⟨tm2, h2, ρ2, k2, A2, H2, x2, n2, m2⟩ := g
        exact ih os hos k2 A2 H2 fun a3 w3 g3 => hn a3 w3 (g3.trans x2 n2 m2)
      | false =>
        simp only [Bool.false_eq_true, if_false]
        simp only [cond_false] at hk'
        obtain ⟨tm2, k2, A2⟩ := setDst_rel (v := svUndef) hk' A' trivial
        exact ih os hos k2 A2 H hn

/-! ### Operations in whatever order -/

structure PendS where
  i : Nat
  o : Oper
  v : SV

def recheck (P : Program) (tm : T SV) (h : HS) : List PendS → Bool → Bool
  | [], X => X
  | p :: L, X => match readV P tm h p.o.op with
    | some v => bif svEq v p.v then recheck P tm h L X else false
    | none => false

theorem recheck_spec {P : Program} {tm : T SV} {h : HS} : ∀ {L : List PendS} {X : Bool}, recheck P tm h L X = true → X ∧ ∀ p ∈ L, readV P tm h p.o.op = some p.v := by
  intro L
  induction L with
  | nil => intro X h; exact ⟨h, fun _ h => by cases h⟩
  | cons p L ih =>
    intro X hx
    simp only [recheck] at hx
    split at hx
    · rename_i v hv
      cases he : svEq v p.v with
      | false => rw [he] at hx; exact absurd hx Bool.false_ne_true
      | true =>
        rw [he] at hx
        have := svEq_eq _ _ he
        subst this
        obtain ⟨h1, h2⟩ := ih hx
        exact ⟨h1, fun q hq => by
          rcases List.mem_cons.1 hq with rfl | hq
          · exact hv
          · exact h2 q hq⟩
    · exact absurd hx Bool.false_ne_true

def behind (cl : List Nat) (i j : Nat) : Bool := (cl.getD j 0).testBit i

/-- Is an operation not wanted, for sure? -/
def unwanted (ops : Array Oper) (o : Oper) (tm : T SV) : Bool :=
  match o.guard with
  | none => false
  | some (j, want) => match (ops[j]?).bind (·.dst) with
    | none => false
    | some d => match tm.get d with
      | some (.v (.bool t)) => bif want then !t else t
      | some (.v (.tuple _)) => true
      | _ => false

/-- The first of the ready ones that can be taken ahead of all others. -/
def takeable (P : Program) (ops : Array Oper) (listed : Array Bool) (tm : T SV) (h : HS) : List Nat → Option Nat
  | [] => none
  | i :: is => match ops[i]? with
    | none => none
    | some o => bif ((pureV P tm o.op).isSome || (readV P tm h o.op).isSome || unwanted ops o tm) && Region.free .any ops listed i then some i else takeable P ops listed tm h is

def noClash (ops : Array Oper) (L : List PendS) (o : Oper) : Bool :=
  match o.dst with
  | none => true
  | some d => L.all fun p => !(p.o.looksAt ops).contains d

def sxDraw (P : Program) (call : CallT) (sz : Nat) (ops : Array Oper) (cl : List Nat) (K : T SV → HS → Bool) : Nat → Array Bool → List PendS → T SV → HS → Bool
  | 0, listed, _, tm, h => match Region.ready .any ops listed with
    | [] => K tm h
    | _ => false
  | fuel + 1, listed, L, tm, h =>
    match Region.ready .any ops listed with
    | [] => K tm h
    | i0 :: is => match takeable P ops listed tm h (i0 :: is) with
      | some i => match ops[i]? with
        | none => false
        | some o => bif noClash ops L o && (i0 :: is).contains i && Region.free .any ops listed i then guardP ops o tm fun run tm =>
            bif run then
              (match pureV P tm o.op with
              | some (r, v) => bif r then setDst sz o.dst v (fun tm => sxDraw P call sz ops cl K fuel (listed.setIfInBounds i true) L tm h) tm else false
              | none => match readV P tm h o.op with
                | some v => bif noClash ops [⟨i, o, v⟩] o then setDst sz o.dst v (fun tm => sxDraw P call sz ops cl K fuel (listed.setIfInBounds i true) (⟨i, o, v⟩ :: L) tm h) tm else false
                | none => false)
            else setDst sz o.dst svUndef (fun tm => sxDraw P call sz ops cl K fuel (listed.setIfInBounds i true) L tm h) tm
          else false
      | none => match is, ops[i0]? with
        | [], some o => bif noClash ops L o then guardP ops o tm fun run tm =>
            bif run then effV P call tm h o.op fun v h' => setDst sz o.dst v (fun tm =>
              recheck P tm h' (L.filter fun p => !behind cl p.i i0) (sxDraw P call sz ops cl K fuel (listed.setIfInBounds i0 true) (L.filter fun p => !behind cl p.i i0) tm h')) tm
            else setDst sz o.dst svUndef (fun tm => sxDraw P call sz ops cl K fuel (listed.setIfInBounds i0 true) L tm h) tm
          else false
        | _, _ => false

def HeldOf (P : Program) (cl : List Nat) (p : PendS) (ε : Operand → Value) (u : Value) : Held := ⟨behind cl p.i, fun w => (execOp ε p.o).run P w = .ok (.value u) w⟩

structure Fits (P : Program) (cl : List Nat) (ρ : Nat → Loc) (n : Nat) (a : Act) (p : PendS) (D : Held) (ε : Operand → Value) (u : Value) : Prop where
  eq : D = HeldOf P cl p ε u
  same : execOp a.eval p.o = execOp ε p.o
  val : u = p.v.den ρ
  lt : p.v.lt ρ n
  sel : ∀ cs b, p.o.op ≠ .select cs b

theorem noClash_same {ops : Array Oper} {L : List PendS} {o : Oper} (h : noClash ops L o = true) {p : PendS} (hp : p ∈ L) (hs : ∀ cs b, p.o.op ≠ .select cs b) (a : Act) (v : Value) : execOp (a.put o.dst v).eval p.o = execOp a.eval p.o := by
  refine execOp_put (ops := ops) p.o hs a o.dst v fun d hd => ?_
  unfold noClash at h
  rw [hd] at h
  have := List.all_eq_true.1 h p hp
  simpa using this

theorem readV_noSelect {P : Program} {tm : T SV} {h : HS} {op : Op} {v : SV} (hr : readV P tm h op = some v) : ∀ cs b, op ≠ .select cs b := by
  intro cs b e; subst e; simp [readV] at hr

theorem sxDraw_wp {P : Program} {call : CallT} (CS : CallSound P call) {sz : Nat} {ops : Array Oper} {K : T SV → HS → Bool} {Q : Exit → Act → World → Prop} (hsel : Region.noSelect ops = true)
    (hQ : ∀ c a w, ¬ Q (.panic c) a w) : ∀ (fuel : Nat) (listed : Array Bool) (L : List PendS) {tm : T SV} {h : HS}, sxDraw P call sz ops (clos .any ops) K fuel listed L tm h →
    ∀ {ρ : Nat → Loc} {a : Act} {w : World} (Hs : List Held), ARel ρ tm sz h.nx a → HRel ρ h w → Down .any ops listed → (∀ D ∈ Hs, D.inv w ∧ ∃ p ∈ L, ∃ ε u, Fits P (clos .any ops) ρ h.nx a p D ε u) →
    (∀ a' w', Goes ρ h sz K a' w' → Q .normal a' w') → wpAnyL P .any ops Q fuel Hs listed a w := by
  classical
  intro fuel
  have hsel' := Region.noSelect_spec hsel
  induction fuel with
  | zero =>
    intro listed L tm h hk ρ a w Hs A H hd hHs hn
    simp only [sxDraw] at hk
    split at hk
    · rename_i hr
      exact ⟨fun p hp => (hHs p hp).1, hr, hn a w ⟨tm, h, ρ, hk, A, H, Ext.refl _ _, Nat.le_refl _, Mem.le_refl _⟩⟩
    · exact absurd hk Bool.false_ne_true
  | succ fuel ih =>
    intro listed L tm h hk ρ a w Hs A H hd hHs hn
    simp only [sxDraw] at hk
    split at hk
    · rename_i hr
      exact ⟨fun p hp => (hHs p hp).1, fun _ => hn a w ⟨tm, h, ρ, hk, A, H, Ext.refl _ _, Nat.le_refl _, Mem.le_refl _⟩, by rw [hr]; simp⟩
    · rename_i i0 is hr
      split at hk
      · -- one that is taken
        rename_i i htake
        split at hk
        · exact absurd hk Bool.false_ne_true
        · rename_i o ho
          cases hb : noClash ops L o && (i0 :: is).contains i && Region.free .any ops listed i with
          | false => rw [hb] at hk; exact absurd hk Bool.false_ne_true
          | true =>
            rw [hb] at hk
            simp only [Bool.and_eq_true] at hb
            obtain ⟨⟨hnc, hin⟩, hfree⟩ := hb
            simp only [cond_true] at hk
            obtain ⟨run, tm1, hk, A1, hw⟩ := guardP_rel hk A
            have hready : i ∈ Region.ready .any ops listed := by rw [hr]; simpa using hin
            -- how a value that is given is taken
            have take : ∀ (D : Held) (v : SV) (L' : List PendS), YieldsI P ops D.inv o (v.den ρ) a → v.lt ρ h.nx →
                (∀ (listed : Array Bool) (j : Nat), Down .any ops listed → j ∈ Region.ready .any ops listed → listed.getD i true = false → D.dep j = false) →
                setDst sz o.dst v (fun tm => sxDraw P call sz ops (clos .any ops) K fuel (listed.setIfInBounds i true) L' tm h) tm1 →
                (∀ D' ∈ D :: Hs, D'.inv w ∧ (D' = ⟨fun _ => false, fun _ => True⟩ ∨ ∃ p ∈ L', ∃ ε u, Fits P (clos .any ops) ρ h.nx (a.put o.dst (v.den ρ)) p D' ε u)) →
                wpAnyL P .any ops Q (fuel + 1) Hs listed a w := by
              intro D v L' hy hv hdep hset hall
              obtain ⟨tm2, hk2, A2⟩ := setDst_rel hset A1 hv
              refine wpAnyL_first (D := D) ho hsel' (fun c a w hq => absurd hq (hQ _ _ _)) hdep fuel Hs listed a w hd (Region.free_spec ho hfree) hready hy ?_
              have key := ih (listed.setIfInBounds i true) L' hk2 ((D :: Hs).filter fun D' => decide (∃ p ∈ L', ∃ ε u, Fits P (clos .any ops) ρ h.nx (a.put o.dst (v.den ρ)) p D' ε u)) A2 H (hd.step hready) (fun D' hD' => by
                obtain ⟨h1, h2⟩ := List.mem_filter.1 hD'
                exact ⟨(hall D' h1).1, of_decide_eq_true h2⟩) hn
              -- the trivial fact may be added
              have add : ∀ (fuel : Nat) (L1 L2 : List Held) (listed : Array Bool) (a : Act) (w : World), (∀ p ∈ L2, p ∈ L1 ∨ p = ⟨fun _ => false, fun _ => True⟩) → wpAnyL P .any ops Q fuel L1 listed a w → wpAnyL P .any ops Q fuel L2 listed a w := by
                intro fuel
                induction fuel with
                | zero => intro L1 L2 listed a w hs h; exact ⟨fun p hp => (hs p hp).elim (h.1 p) (fun e => by subst e; trivial), h.2⟩
                | succ fuel ih =>
                  intro L1 L2 listed a w hs h
                  refine ⟨fun p hp => (hs p hp).elim (h.1 p) (fun e => by subst e; trivial), h.2.1, fun k hk => wpOp_mono (fun a w h' => ih _ _ _ a w (fun p hp => ?_) h') (h.2.2 k hk)⟩
                  rw [List.mem_filter] at hp
                  rcases hs p hp.1 with h' | h'
                  · exact .inl (List.mem_filter.2 ⟨h', hp.2⟩)
                  · exact .inr h'
              refine add _ _ _ _ _ _ (fun p hp => ?_) key
              rcases (hall p hp).2 with h' | h'
              · exact .inr h'
              · exact .inl (List.mem_filter.2 ⟨hp, decide_eq_true h'⟩)
            have old : ∀ (v : SV), ∀ D' ∈ Hs, D'.inv w ∧ ∃ p ∈ L, ∃ ε u, Fits P (clos .any ops) ρ h.nx (a.put o.dst (v.den ρ)) p D' ε u := fun v D' hD' => by
              obtain ⟨h1, p, hp, ε, u, F⟩ := hHs D' hD'
              exact ⟨h1, p, hp, ε, u, F.eq, (noClash_same hnc hp F.sel a _).trans F.same, F.val, F.lt, F.sel⟩
            cases run with
            | true =>
              simp only [cond_true] at hk
              split at hk
              · rename_i r v hp
                cases r with
                | false => exact absurd hk Bool.false_ne_true
                | true =>
                  simp only [cond_true] at hk
                  have hlt := (pureV_run hp rfl A1 o rfl w).2
                  refine take ⟨fun _ => false, fun _ => True⟩ v L (.inl ⟨hw, fun w' _ => (pureV_run hp rfl A1 o rfl w').1⟩) hlt (fun _ _ _ _ _ => rfl) hk fun D' hD' => ?_
                  rcases List.mem_cons.1 hD' with rfl | hD'
                  · exact ⟨trivial, .inl rfl⟩
                  · exact ⟨(old v D' hD').1, .inr (old v D' hD').2⟩
              · split at hk
                · rename_i v hp
                  cases hnc2 : noClash ops [⟨i, o, v⟩] o with
                  | false => rw [hnc2] at hk; exact absurd hk Bool.false_ne_true
                  | true =>
                    rw [hnc2] at hk
                    simp only [cond_true] at hk
                    obtain ⟨hrun, hlt⟩ := readV_run hp A1 H o rfl
                    refine take (HeldOf P (clos .any ops) ⟨i, o, v⟩ a.eval (v.den ρ)) v (⟨i, o, v⟩ :: L) (.inl ⟨hw, fun w' hw' => hw'⟩) hlt (fun listed j hd hj hi => clos_ready hd hi hj) hk fun D' hD' => ?_
                    rcases List.mem_cons.1 hD' with rfl | hD'
                    · exact ⟨hrun, .inr ⟨_, List.mem_cons_self, a.eval, v.den ρ, rfl, noClash_same hnc2 List.mem_cons_self (readV_noSelect hp) a _, rfl, hlt, readV_noSelect hp⟩⟩
                    · obtain ⟨h1, p, hp, ε, u, F⟩ := old v D' hD'
                      exact ⟨h1, .inr ⟨p, List.mem_cons_of_mem _ hp, ε, u, F⟩⟩
                · exact absurd hk Bool.false_ne_true
            | false =>
              simp only [cond_false] at hk
              refine take ⟨fun _ => false, fun _ => True⟩ svUndef L (.inr ⟨hw, rfl⟩) trivial (fun _ _ _ _ _ => rfl) hk fun D' hD' => ?_
              rcases List.mem_cons.1 hD' with rfl | hD'
              · exact ⟨trivial, .inl rfl⟩
              · exact ⟨(old svUndef D' hD').1, .inr (old svUndef D' hD').2⟩
      · -- the only one that is ready
        split at hk
        · rename_i o ho _
          cases hnc : noClash ops L o with
          | false => rw [hnc] at hk; exact absurd hk Bool.false_ne_true
          | true =>
            rw [hnc] at hk
            simp only [cond_true] at hk
            obtain ⟨run, tm1, hk, A1, hw⟩ := guardP_rel hk A
            have hready : i0 ∈ Region.ready .any ops listed := by rw [hr]; simp
            refine ⟨fun p hp => (hHs p hp).1, fun h0 => (by rw [hr] at h0; cases h0), fun j hj => ?_⟩
            rw [hr] at hj
            have hj : j = i0 := by simpa using hj
            subst hj
            unfold wpOp
            simp only [ho, hw]
            cases run with
            | true =>
              simp only [cond_true] at hk
              simp only [if_true]
              refine .inl (effV_wp CS hk A1 H o rfl fun v w' ⟨z, h', ρ', hz, hv, hlt, H', hx, hnx, hm⟩ => ?_)
              subst hv
              obtain ⟨tm2, hk2, A2⟩ := setDst_rel hz (A1.ext hx hnx) hlt
              obtain ⟨hk3, hre⟩ := recheck_spec hk2
              refine ih (listed.setIfInBounds j true) _ hk3 (Hs.filter fun p => !p.dep j) A2 H' (hd.step hready) (fun D hD => ?_) fun a3 w3 g3 => hn a3 w3 (g3.trans hx hnx hm)
              obtain ⟨hD1, hD2⟩ := List.mem_filter.1 hD
              obtain ⟨_, p, hp, ε, u, F⟩ := hHs D hD1
              have hpL : p ∈ L.filter fun p => !behind (clos .any ops) p.i j := by
                refine List.mem_filter.2 ⟨hp, ?_⟩
                rw [F.eq] at hD2; exact hD2
              have hsame : execOp (a.put o.dst (z.den ρ')).eval p.o = execOp ε p.o := (noClash_same hnc hp F.sel a _).trans F.same
              obtain ⟨hrun, _⟩ := readV_run (hre p hpL) A2 H' p.o rfl
              have hval : u = p.v.den ρ' := by rw [F.val, SV.den_ext hx _ F.lt]
              refine ⟨?_, p, hpL, ε, u, F.eq, hsame, hval, SV.lt_ext hx hnx _ F.lt, F.sel⟩
              rw [F.eq]
              show (execOp ε p.o).run P w' = .ok (.value u) w'
              rw [← hsame, hrun, hval]
            | false =>
              simp only [cond_false] at hk
              simp only [Bool.false_eq_true, if_false]
              obtain ⟨tm2, hk2, A2⟩ := setDst_rel (v := svUndef) hk A1 trivial
              refine ih (listed.setIfInBounds j true) L hk2 (Hs.filter fun p => !p.dep j) A2 H (hd.step hready) (fun D hD => ?_) hn
              obtain ⟨hD1, hD2⟩ := List.mem_filter.1 hD
              obtain ⟨h1, p, hp, ε, u, F⟩ := hHs D hD1
              exact ⟨h1, p, hp, ε, u, F.eq, (noClash_same hnc hp F.sel a _).trans F.same, F.val, F.lt, F.sel⟩
        · exact absurd hk Bool.false_ne_true

end
end Go.Sx
