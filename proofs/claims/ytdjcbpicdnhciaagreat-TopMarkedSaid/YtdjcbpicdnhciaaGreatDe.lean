/- The data layer, part one: when a value and a heap of data stand for the model's memory. -/
import Derived.Calls
import Derived.Laws.Append
import Derived.Laws.World
import Derived.KernelRfl
import Derived.Laws.Tables
set_option linter.unusedVariables false
set_option linter.unusedSimpArgs false

section
namespace Go.Dx

/-- Where a block of data lies in the model's memory. -/
structure Loc where
  blk : Nat
  base : Nat
  csize : Nat
  size : Nat
  es : Nat
  opn : Bool
  ver : Nat
  mp : Bool

abbrev Rz := Nat → Option Loc

/-- What a slice's capacity stands for. -/
def Loc.okCap (l : Loc) (off c c' : Nat) : Prop :=
  ((l.opn = false ∨ off + c * l.es < l.size) → c' = c) ∧ (l.opn = true → l.base + off + c' * l.es ≤ l.csize)

inductive VRel (φ : Rz) : Value → Value → Prop
  | bool (b : Bool) : VRel φ (.bool b) (.bool b)
  | int (k : IntKind) (n : Int) : VRel φ (.int k n) (.int k n)
  | str (s : ByteArray) : VRel φ (.string s) (.string s)
  | nilptr : VRel φ (.pointer none) (.pointer none)
  | ptr (i off v : Nat) (l : Loc) (a' : Addr) : φ i = some l → v ≤ l.ver → (v = l.ver → a' = ⟨l.blk, l.base + off, none⟩) →
      VRel φ (.pointer (some ⟨i, off, some v⟩)) (.pointer (some a'))
  | nilslice (n c : Nat) : VRel φ (.slice none n c) (.slice none n c)
  | slice (i off v n c c' : Nat) (l : Loc) (a' : Addr) : φ i = some l → v ≤ l.ver → n ≤ c → c ≤ c' →
      (v = l.ver → (c' ≠ 0 → a' = ⟨l.blk, l.base + off, none⟩) ∧ l.okCap off c c') →
      VRel φ (.slice (some ⟨i, off, some v⟩) n c) (.slice (some a') n c')
  | nilmap : VRel φ (.map none) (.map none)
  | map (i : Nat) (l : Loc) : φ i = some l → l.mp = true → VRel φ (.map (some i)) (.map (some l.blk))
  | nilFunc : VRel φ .nilFunc .nilFunc
  | nilIface : VRel φ .nilIface .nilIface
  | func (f : FuncId) (xs ys cs ds : Array Value) (hx : xs.size = ys.size) (hc : cs.size = ds.size)
      (h : ∀ (i : Nat) (x y : Value), xs[i]? = some x → ys[i]? = some y → VRel φ x y)
      (h' : ∀ (i : Nat) (x y : Value), cs[i]? = some x → ds[i]? = some y → VRel φ x y) :
      VRel φ (.func (.func f) xs cs) (.func (.func f) ys ds)
  | iface (t : TypeId) (x y : Value) (h : VRel φ x y) : VRel φ (.iface t x) (.iface t y)
  | agg (xs ys : Array Value) (hx : xs.size = ys.size) (h : ∀ (i : Nat) (x y : Value), xs[i]? = some x → ys[i]? = some y → VRel φ x y) :
      VRel φ (.agg xs) (.agg ys)
  | tuple (xs ys : Array Value) (hx : xs.size = ys.size) (h : ∀ (i : Nat) (x y : Value), xs[i]? = some x → ys[i]? = some y → VRel φ x y) :
      VRel φ (.tuple xs) (.tuple ys)

/-- Lists of values, pointwise. -/
def Rels (φ : Rz) (xs ys : List Value) : Prop := xs.length = ys.length ∧ ∀ (i : Nat) (x y : Value), xs[i]? = some x → ys[i]? = some y → VRel φ x y

theorem Rels.nil {φ : Rz} : Rels φ [] [] := ⟨rfl, fun i x y h => by simp at h⟩

theorem Rels.cons {φ : Rz} {x y : Value} {xs ys : List Value} (h : VRel φ x y) (hs : Rels φ xs ys) : Rels φ (x :: xs) (y :: ys) := by
  refine ⟨by simp [hs.1], fun i a b ha hb => ?_⟩
  cases i with
  | zero => simp at ha hb; subst ha; subst hb; exact h
  | succ i => simp at ha hb; exact hs.2 i a b ha hb

theorem Rels.uncons {φ : Rz} {x : Value} {xs zs : List Value} (h : Rels φ (x :: xs) zs) : ∃ y ys, zs = y :: ys ∧ VRel φ x y ∧ Rels φ xs ys := by
  obtain ⟨hl, hr⟩ := h
  cases zs with
  | nil => simp at hl
  | cons y ys =>
    refine ⟨y, ys, rfl, hr 0 x y (by simp) (by simp), by simpa using hl, fun i a b ha hb => hr (i + 1) a b (by simpa using ha) (by simpa using hb)⟩

theorem Rels.append {φ : Rz} {xs ys us vs : List Value} (h : Rels φ xs ys) (h' : Rels φ us vs) : Rels φ (xs ++ us) (ys ++ vs) := by
  induction xs generalizing ys with
  | nil => cases ys with
    | nil => simpa using h'
    | cons y ys => simp [Rels] at h
  | cons x xs ih =>
    obtain ⟨y, ys', rfl, hv, hs⟩ := h.uncons
    exact Rels.cons hv (ih hs)

theorem Rels.get {φ : Rz} {xs ys : List Value} (h : Rels φ xs ys) {i : Nat} {x : Value} (hx : xs[i]? = some x) : ∃ y, ys[i]? = some y ∧ VRel φ x y := by
  have hi : i < xs.length := (List.getElem?_eq_some_iff.1 hx).1
  have hi' : i < ys.length := by rw [← h.1]; exact hi
  exact ⟨ys[i], by simp [hi'], h.2 i x _ hx (by simp [hi'])⟩

theorem Rels.take {φ : Rz} {xs ys : List Value} (h : Rels φ xs ys) (n : Nat) : Rels φ (xs.take n) (ys.take n) := by
  refine ⟨by simp [h.1], fun i x y hx hy => ?_⟩
  rw [List.getElem?_take] at hx hy
  split at hx
  · rename_i hi; simp [hi] at hy; exact h.2 i x y hx hy
  · cases hx

theorem Rels.drop {φ : Rz} {xs ys : List Value} (h : Rels φ xs ys) (n : Nat) : Rels φ (xs.drop n) (ys.drop n) := by
  refine ⟨by simp [h.1], fun i x y hx hy => ?_⟩
  rw [List.getElem?_drop] at hx hy
  exact h.2 _ x y hx hy

theorem Rels.set {φ : Rz} {xs ys : List Value} (h : Rels φ xs ys) {x y : Value} (hv : VRel φ x y) (i : Nat) : Rels φ (xs.set i x) (ys.set i y) := by
  refine ⟨by simp [h.1], fun j a b ha hb => ?_⟩
  by_cases hij : i = j
  · subst hij
    rw [List.getElem?_set] at ha hb
    simp at ha hb
    obtain ⟨_, rfl⟩ := ha; obtain ⟨_, rfl⟩ := hb
    exact hv
  · rw [List.getElem?_set] at ha hb
    simp [hij] at ha hb
    exact h.2 j a b ha hb

theorem Rels.replicate {φ : Rz} {x y : Value} (h : VRel φ x y) (n : Nat) : Rels φ (List.replicate n x) (List.replicate n y) := by
  refine ⟨by simp, fun i a b ha hb => ?_⟩
  simp [List.getElem?_replicate] at ha hb
  obtain ⟨_, rfl⟩ := ha; obtain ⟨_, rfl⟩ := hb
  exact h

theorem Rels.of_agg {φ : Rz} {xs : Array Value} {v' : Value} (h : VRel φ (.agg xs) v') : ∃ ys, v' = .agg ys ∧ Rels φ xs.toList ys.toList := by
  cases h with
  | agg _ ys hx h => exact ⟨ys, rfl, by simpa using hx, fun i x y a b => h i x y (by simpa using a) (by simpa using b)⟩

theorem Rels.to_agg {φ : Rz} {xs ys : Array Value} (h : Rels φ xs.toList ys.toList) : VRel φ (.agg xs) (.agg ys) :=
  .agg xs ys (by simpa using h.1) (fun i x y a b => h.2 i x y (by simpa using a) (by simpa using b))

theorem Rels.of_tuple {φ : Rz} {xs : Array Value} {v' : Value} (h : VRel φ (.tuple xs) v') : ∃ ys, v' = .tuple ys ∧ Rels φ xs.toList ys.toList := by
  cases h with
  | tuple _ ys hx h => exact ⟨ys, rfl, by simpa using hx, fun i x y a b => h i x y (by simpa using a) (by simpa using b)⟩

theorem Rels.to_tuple {φ : Rz} {xs ys : Array Value} (h : Rels φ xs.toList ys.toList) : VRel φ (.tuple xs) (.tuple ys) :=
  .tuple xs ys (by simpa using h.1) (fun i x y a b => h.2 i x y (by simpa using a) (by simpa using b))

/-- The cells of related values are related. -/
theorem VRel.cells {φ : Rz} {v v' : Value} (h : VRel φ v v') : Rels φ v.cells.toList v'.cells.toList := by
  have one : ∀ {x y : Value}, VRel φ x y → Rels φ [x] [y] := fun h => Rels.cons h Rels.nil
  cases h with
  | agg xs ys hx h => exact ⟨by simpa [Value.cells] using hx, fun i x y a b => h i x y (by simpa [Value.cells] using a) (by simpa [Value.cells] using b)⟩
  | bool b => exact one (.bool b)
  | int k n => exact one (.int k n)
  | str s => exact one (.str s)
  | nilptr => exact one .nilptr
  | ptr i off v l a' h1 h2 h3 => exact one (.ptr i off v l a' h1 h2 h3)
  | nilslice n c => exact one (.nilslice n c)
  | slice i off v n c c' l a' h1 h2 h3 h4 h5 => exact one (.slice i off v n c c' l a' h1 h2 h3 h4 h5)
  | nilmap => exact one .nilmap
  | map i l h1 h2 => exact one (.map i l h1 h2)
  | nilFunc => exact one .nilFunc
  | nilIface => exact one .nilIface
  | func f xs ys cs ds hx hc h h' => exact one (.func f xs ys cs ds hx hc h h')
  | iface t x y h => exact one (.iface t x y h)
  | tuple xs ys hx h => exact one (.tuple xs ys hx h)

/-- One cell: neither a row of cells nor a tuple. -/
def isCell : Value → Bool
  | .agg _ | .tuple _ => false
  | _ => true

theorem VRel.isCell {φ : Rz} {v v' : Value} (h : VRel φ v v') : isCell v' = isCell v := by
  cases h <;> rfl

/-- A value without references. -/
def atom : Value → Bool
  | .bool _ | .int _ _ | .string _ | .pointer none | .slice none _ _ | .map none | .nilFunc | .nilIface => true
  | _ => false

def flat : Value → Bool
  | .agg cs => cs.toList.all atom
  | .tuple vs => vs.toList.all fun v => match v with
    | .agg cs => cs.toList.all atom
    | v => atom v
  | v => atom v

theorem atom_eq {φ : Rz} {v v' : Value} (ha : atom v = true) (h : VRel φ v v') : v' = v := by
  cases h <;> simp_all [atom]

theorem rels_atoms {φ : Rz} : ∀ {xs ys : List Value}, xs.all atom = true → Rels φ xs ys → ys = xs
  | [], ys, _, h => by cases ys with | nil => rfl | cons y ys => simp [Rels] at h
  | x :: xs, zs, ha, h => by
    obtain ⟨y, ys, rfl, hv, hs⟩ := h.uncons
    simp at ha
    rw [atom_eq ha.1 hv, rels_atoms (by simpa using ha.2) hs]

def flat1 : Value → Bool
  | .agg cs => cs.toList.all atom
  | v => atom v

theorem flat1_eq {φ : Rz} {v v' : Value} (ha : flat1 v = true) (h : VRel φ v v') : v' = v := by
  cases v with
  | agg xs =>
    obtain ⟨ys, rfl, hr⟩ := Rels.of_agg h
    rw [Array.ext' (rels_atoms (by simpa [flat1] using ha) hr)]
  | _ => exact atom_eq (by simpa [flat1] using ha) h

theorem rels_flat1 {φ : Rz} : ∀ {xs ys : List Value}, xs.all flat1 = true → Rels φ xs ys → ys = xs
  | [], ys, _, h => by cases ys with | nil => rfl | cons y ys => simp [Rels] at h
  | x :: xs, zs, ha, h => by
    obtain ⟨y, ys, rfl, hv, hs⟩ := h.uncons
    simp at ha
    rw [flat1_eq ha.1 hv, rels_flat1 (by simpa using ha.2) hs]

theorem flat_eq {φ : Rz} {v v' : Value} (ha : flat v = true) (h : VRel φ v v') : v' = v := by
  cases v with
  | tuple xs =>
    obtain ⟨ys, rfl, hr⟩ := Rels.of_tuple h
    have := rels_flat1 (φ := φ) (xs := xs.toList) (ys := ys.toList) (by
      simp only [flat, List.all_eq_true] at ha ⊢
      intro x hx
      have := ha x hx
      cases x <;> simpa [flat1] using this) hr
    rw [Array.ext' this]
  | agg xs => exact flat1_eq (by simpa [flat, flat1] using ha) h
  | _ => exact atom_eq (by simpa [flat] using ha) h

theorem atom_rel {φ : Rz} {v : Value} (ha : atom v = true) : VRel φ v v := by
  match v, ha with
  | .bool b, _ => exact .bool b
  | .int k n, _ => exact .int k n
  | .string s, _ => exact .str s
  | .pointer none, _ => exact .nilptr
  | .slice none n c, _ => exact .nilslice n c
  | .map none, _ => exact .nilmap
  | .nilFunc, _ => exact .nilFunc
  | .nilIface, _ => exact .nilIface

theorem atoms_rel {φ : Rz} {xs : List Value} (ha : xs.all atom = true) : Rels φ xs xs :=
  ⟨rfl, fun i x y hx hy => by
    rw [hx] at hy; cases hy
    exact atom_rel (by simp only [List.all_eq_true] at ha; exact ha x (List.mem_of_getElem? hx))⟩

theorem flat1_rel {φ : Rz} {v : Value} (ha : flat1 v = true) : VRel φ v v := by
  match v, ha with
  | .agg cs, ha => exact Rels.to_agg (atoms_rel (by simpa [flat1] using ha))
  | .bool b, _ => exact .bool b
  | .int k n, _ => exact .int k n
  | .string s, _ => exact .str s
  | .pointer none, _ => exact .nilptr
  | .slice none n c, _ => exact .nilslice n c
  | .map none, _ => exact .nilmap
  | .nilFunc, _ => exact .nilFunc
  | .nilIface, _ => exact .nilIface

theorem flat_rel {φ : Rz} {v : Value} (ha : flat v = true) : VRel φ v v := by
  match v, ha with
  | .agg cs, ha => exact flat1_rel (by simpa [flat, flat1] using ha)
  | .tuple vs, ha =>
    refine Rels.to_tuple ⟨rfl, fun i x y hx hy => ?_⟩
    rw [hx] at hy; cases hy
    refine flat1_rel ?_
    simp only [flat, List.all_eq_true] at ha
    have := ha x (List.mem_of_getElem? hx)
    cases x <;> simpa [flat1] using this
  | .bool b, _ => exact .bool b
  | .int k n, _ => exact .int k n
  | .string s, _ => exact .str s
  | .pointer none, _ => exact .nilptr
  | .slice none n c, _ => exact .nilslice n c
  | .map none, _ => exact .nilmap
  | .nilFunc, _ => exact .nilFunc
  | .nilIface, _ => exact .nilIface

theorem rel_undef {φ : Rz} : VRel φ undef undef := flat_rel (by simp [undef, flat])

end Go.Dx
end

section
/- The data layer, part two: heaps of data, and what it means that a world bears one; new blocks, stores. -/
namespace Go.Dx

structure Blk where
  cs : List Value
  ro : Bool
  opn : Bool
  es : Nat
  ver : Nat

inductive AObj where
  | dead
  | cells (b : Blk)
  | map (es : List (Value × Value)) (ro : Bool)
  | iter (s : ByteArray) (pos : Nat)

abbrev Hp := List AObj

def AObj.wr : AObj → Bool
  | .dead => false
  | .cells b => !b.ro
  | .map _ ro => !ro
  | .iter _ _ => true

def AObj.alive : AObj → Bool
  | .dead => false
  | _ => true

theorem AObj.alive_of_wr {o : AObj} (h : o.wr = true) : o.alive = true := by cases o <;> simp_all [AObj.wr, AObj.alive]

/-- The world bears this object at this place. -/
def ORel (φ : Rz) (w : World) (l : Loc) : AObj → Prop
  | .dead => True
  | .cells b => (l.size = b.cs.length ∧ l.es = b.es ∧ l.opn = b.opn ∧ l.ver = b.ver ∧ l.mp = false) ∧
      ∃ (arr : Array Value) (el : TypeId) (fr : Nat × Nat), w.heap[l.blk]? = some (.cells arr el fr) ∧ arr.size = l.csize ∧ (b.ro = false → fr.2 ≤ fr.1) ∧ l.base + b.cs.length ≤ arr.size ∧
        ∀ (j : Nat) (x : Value), b.cs[j]? = some x → isCell x = true ∧ ∃ y, arr[l.base + j]? = some y ∧ VRel φ x y
  | .map es _ => l.mp = true ∧ ∃ (ms : Array MapEntry) (ck : Nat), w.heap[l.blk]? = some (.map ms ck) ∧ ms.size = es.length ∧
        ∀ (j : Nat) (k x : Value), es[j]? = some (k, x) → ∃ e : MapEntry, ms[j]? = some e ∧ VRel φ k e.key ∧ VRel φ x e.val
  | .iter s pos => l.base = 0 ∧ l.ver = 0 ∧ w.heap[l.blk]? = some (.stringIter s pos)

structure HRel (φ : Rz) (A : Hp) (w : World) : Prop where
  dom : ∀ i, A.length ≤ i → φ i = none
  obj : ∀ (i : Nat) (o : AObj) (l : Loc), φ i = some l → A[i]? = some o → o.alive = true → l.blk < w.heap.size ∧ ORel φ w l o
  sep : ∀ (i j : Nat) (o p : AObj) (l m : Loc), i ≠ j → A[i]? = some o → A[j]? = some p → o.wr = true → p.alive = true → φ i = some l → φ j = some m → l.blk ≠ m.blk

/-- Later realizations. -/
def Ext (φ φ' : Rz) : Prop := ∀ i l, φ i = some l → ∃ l', φ' i = some l' ∧ (l' = l ∨ (l.ver < l'.ver ∧ l.mp = false ∧ l'.mp = false))

theorem Ext.refl (φ : Rz) : Ext φ φ := fun _ l h => ⟨l, h, .inl rfl⟩

theorem VRel.mono {φ φ' : Rz} (h : Ext φ φ') {v v' : Value} (hv : VRel φ v v') : VRel φ' v v' := by
  induction hv with
  | bool b => exact .bool b
  | int k n => exact .int k n
  | str s => exact .str s
  | nilptr => exact .nilptr
  | ptr i off v l a' h1 h2 h3 =>
    obtain ⟨l', hl', c⟩ := h i l h1
    refine .ptr i off v l' a' hl' ?_ ?_
    · rcases c with rfl | ⟨c, _⟩ <;> omega
    · intro e
      rcases c with rfl | ⟨c, _⟩
      · exact h3 e
      · omega
  | nilslice n c => exact .nilslice n c
  | slice i off v n c c' l a' h1 h2 hn hc h3 =>
    obtain ⟨l', hl', cc⟩ := h i l h1
    refine .slice i off v n c c' l' a' hl' ?_ hn hc ?_
    · rcases cc with rfl | ⟨cc, _⟩ <;> omega
    · intro e
      rcases cc with rfl | ⟨cc, _⟩
      · exact h3 e
      · omega
  | nilmap => exact .nilmap
  | map i l h1 h2 =>
    obtain ⟨l', hl', c⟩ := h i l h1
    rcases c with rfl | ⟨_, c, _⟩
    · exact .map i l' hl' h2
    · simp [h2] at c
  | nilFunc => exact .nilFunc
  | nilIface => exact .nilIface
  | func f xs ys cs ds hx hc _ _ ih ih' => exact .func f xs ys cs ds hx hc (fun i x y a b => ih i x y a b) (fun i x y a b => ih' i x y a b)
  | iface t x y _ ih => exact .iface t x y ih
  | agg xs ys hx _ ih => exact .agg xs ys hx (fun i x y a b => ih i x y a b)
  | tuple xs ys hx _ ih => exact .tuple xs ys hx (fun i x y a b => ih i x y a b)

theorem Rels.mono {φ φ' : Rz} (h : Ext φ φ') {xs ys : List Value} (hv : Rels φ xs ys) : Rels φ' xs ys :=
  ⟨hv.1, fun i x y a b => (hv.2 i x y a b).mono h⟩

/-- What was there and is no block of the data that may be written is as it was. -/
structure Fr (φ : Rz) (A : Hp) (w : World) (φ' : Rz) (A' : Hp) (w' : World) : Prop where
  size : w.heap.size ≤ w'.heap.size
  len : A.length ≤ A'.length
  keep : ∀ b, b < w.heap.size → (∀ (i : Nat) (o : AObj) (l : Loc), A[i]? = some o → o.wr = true → φ i = some l → l.blk ≠ b) → w'.heap[b]? = w.heap[b]?
  wr : ∀ (i : Nat) (o : AObj) (l : Loc), A'[i]? = some o → o.wr = true → φ' i = some l → l.blk < w.heap.size →
    ∃ (j : Nat) (p : AObj) (m : Loc), A[j]? = some p ∧ p.wr = true ∧ φ j = some m ∧ m.blk = l.blk
  phi : ∀ i, i < A.length → (∀ o, A[i]? = some o → o.wr = false) → φ' i = φ i
  ext : Ext φ φ'
  ro : ∀ i, i < A.length → (∀ o, A[i]? = some o → o.wr = false) → ∀ o, A'[i]? = some o → o.wr = false
  tape : w'.tape = w.tape
  os : w'.os = w.os
  output : w'.output = w.output

theorem Fr.refl (φ : Rz) (A : Hp) (w : World) : Fr φ A w φ A w :=
  ⟨Nat.le_refl _, Nat.le_refl _, fun _ _ _ => rfl, fun i o l h1 h2 h3 _ => ⟨i, o, l, h1, h2, h3, rfl⟩, fun _ _ _ => rfl, Ext.refl φ, fun _ _ h => h, rfl, rfl, rfl⟩

theorem Ext.trans {φ φ' φ'' : Rz} (h : Ext φ φ') (h' : Ext φ' φ'') : Ext φ φ'' := by
  intro i l hl
  obtain ⟨l1, h1, c1⟩ := h i l hl
  obtain ⟨l2, h2, c2⟩ := h' i l1 h1
  refine ⟨l2, h2, ?_⟩
  rcases c1 with rfl | ⟨c1, c1', c1''⟩ <;> rcases c2 with rfl | ⟨c2, c2', c2''⟩
  · exact .inl rfl
  · exact .inr ⟨c2, c2', c2''⟩
  · exact .inr ⟨c1, c1', c1''⟩
  · exact .inr ⟨Nat.lt_trans c1 c2, c1', c2''⟩

theorem Fr.trans {φ φ' φ'' : Rz} {A A' A'' : Hp} {w w' w'' : World} (h : Fr φ A w φ' A' w') (k : Fr φ' A' w' φ'' A'' w'') : Fr φ A w φ'' A'' w'' := by
  refine ⟨Nat.le_trans h.size k.size, Nat.le_trans h.len k.len, ?_, ?_, ?_, h.ext.trans k.ext, ?_, k.tape.trans h.tape, k.os.trans h.os, k.output.trans h.output⟩
  · intro b hb hn
    rw [← h.keep b hb hn]
    refine k.keep b (Nat.lt_of_lt_of_le hb h.size) fun i o l h1 h2 h3 h4 => ?_
    obtain ⟨j, p, m, a1, a2, a3, a4⟩ := h.wr i o l h1 h2 h3 (h4 ▸ hb)
    exact hn j p m a1 a2 a3 (a4.trans h4)
  · intro i o l h1 h2 h3 h4
    obtain ⟨j, p, m, a1, a2, a3, a4⟩ := k.wr i o l h1 h2 h3 (Nat.lt_of_lt_of_le h4 h.size)
    obtain ⟨j', p', m', b1, b2, b3, b4⟩ := h.wr j p m a1 a2 a3 (a4 ▸ h4)
    exact ⟨j', p', m', b1, b2, b3, b4.trans a4⟩
  · intro i hi hn
    rw [← h.phi i hi hn]
    exact k.phi i (Nat.lt_of_lt_of_le hi h.len) (h.ro i hi hn)
  · intro i hi hn
    exact k.ro i (Nat.lt_of_lt_of_le hi h.len) (h.ro i hi hn)

theorem ORel.mono {φ φ' : Rz} {w w' : World} {l : Loc} {o : AObj} (h : Ext φ φ') (hb : w'.heap[l.blk]? = w.heap[l.blk]?) (ho : ORel φ w l o) : ORel φ' w' l o := by
  cases o with
  | dead => exact True.intro
  | cells b =>
    obtain ⟨h1, arr, el, fr, h2, h3, h4, h5, h6⟩ := ho
    exact ⟨h1, arr, el, fr, hb.trans h2, h3, h4, h5, fun j x hj => let ⟨a, y, b, c⟩ := h6 j x hj; ⟨a, y, b, c.mono h⟩⟩
  | map es ro =>
    obtain ⟨h1, ms, ck, h2, h3, h4⟩ := ho
    exact ⟨h1, ms, ck, hb.trans h2, h3, fun j k x hj => let ⟨e, a, b, c⟩ := h4 j k x hj; ⟨e, a, b.mono h, c.mono h⟩⟩
  | iter s pos => exact ⟨ho.1, ho.2.1, hb.trans ho.2.2⟩

def upd (φ : Rz) (i : Nat) (l : Loc) : Rz := fun j => if j = i then some l else φ j

@[simp] theorem upd_same (φ : Rz) (i : Nat) (l : Loc) : upd φ i l i = some l := by simp [upd]
theorem upd_ne {φ : Rz} {i j : Nat} {l : Loc} (h : j ≠ i) : upd φ i l j = φ j := by simp [upd, h]

theorem ext_upd_none {φ : Rz} {i : Nat} {l : Loc} (h : φ i = none) : Ext φ (upd φ i l) := by
  intro j m hj
  refine ⟨m, ?_, .inl rfl⟩
  rw [upd_ne (fun e => by subst e; rw [h] at hj; cases hj)]
  exact hj

/-- A new object: the world grows by one block. -/
theorem HRel.new {φ : Rz} {A : Hp} {w w' : World} (h : HRel φ A w) {o : AObj} {l : Loc} {ob : Obj}
    (hh : w'.heap = w.heap.push ob) (ht : w'.tape = w.tape) (hos : w'.os = w.os) (hout : w'.output = w.output)
    (hl : l.blk = w.heap.size) (ho : ORel (upd φ A.length l) w' l o) :
    HRel (upd φ A.length l) (A ++ [o]) w' ∧ Fr φ A w (upd φ A.length l) (A ++ [o]) w' := by
  have hn : φ A.length = none := h.dom _ (Nat.le_refl _)
  have hext := ext_upd_none (l := l) hn
  have hsz : w'.heap.size = w.heap.size + 1 := by rw [hh]; simp
  have old : ∀ b, b < w.heap.size → w'.heap[b]? = w.heap[b]? := fun b hb => by rw [hh, Array.getElem?_push, if_neg (by omega)]
  have get : ∀ (i : Nat) (p : AObj), (A ++ [o])[i]? = some p → (i < A.length ∧ A[i]? = some p) ∨ (i = A.length ∧ p = o) := by
    intro i p hi
    rcases Nat.lt_trichotomy i A.length with h' | h' | h'
    · left; rw [List.getElem?_append_left h'] at hi; exact ⟨h', hi⟩
    · right; subst h'; simp at hi; exact ⟨rfl, hi.symm⟩
    · rw [List.getElem?_eq_none (by simp; omega)] at hi; cases hi
  constructor
  · refine ⟨?_, ?_, ?_⟩
    · intro i hi
      simp at hi
      rw [upd_ne (by omega)]
      exact h.dom i (by omega)
    · intro i p m hm hi hp
      rcases get i p hi with ⟨h1, h2⟩ | ⟨rfl, rfl⟩
      · rw [upd_ne (by omega)] at hm
        obtain ⟨hb, hr⟩ := h.obj i p m hm h2 hp
        exact ⟨by omega, hr.mono hext (old _ hb)⟩
      · rw [upd_same] at hm; cases hm
        exact ⟨by omega, ho⟩
    · intro i j p q m n hij hi hj hp hq hm hn'
      rcases get i p hi with ⟨h1, h2⟩ | ⟨rfl, rfl⟩ <;> rcases get j q hj with ⟨h3, h4⟩ | ⟨rfl, rfl⟩
      · rw [upd_ne (by omega)] at hm hn'
        exact h.sep i j p q m n hij h2 h4 hp hq hm hn'
      · rw [upd_ne (by omega)] at hm
        rw [upd_same] at hn'; cases hn'
        obtain ⟨hb, _⟩ := h.obj i p m hm h2 (AObj.alive_of_wr hp)
        omega
      · rw [upd_ne (by omega)] at hn'
        rw [upd_same] at hm; cases hm
        obtain ⟨hb, _⟩ := h.obj j q n hn' h4 hq
        omega
      · exact absurd rfl hij
  · refine ⟨by omega, by simp, fun b hb _ => old b hb, ?_, ?_, hext, ?_, ht, hos, hout⟩
    · intro i p m hi hp hm hb
      rcases get i p hi with ⟨h1, h2⟩ | ⟨rfl, rfl⟩
      · rw [upd_ne (by omega)] at hm
        exact ⟨i, p, m, h2, hp, hm, rfl⟩
      · rw [upd_same] at hm; cases hm
        omega
    · intro i hi _
      exact upd_ne (by omega)
    · intro i hi hr p hp
      rcases get i p hp with ⟨h1, h2⟩ | ⟨h1, _⟩
      · exact hr p h2
      · omega

/-- An object of the data that may be written turns into another one, at the same place or a later realization of it. -/
theorem HRel.set {φ : Rz} {A : Hp} {w w' : World} (h : HRel φ A w) {i : Nat} {o o' : AObj} {l l' : Loc}
    (hi : A[i]? = some o) (hw : o.wr = true) (hl : φ i = some l)
    (hsz : w.heap.size ≤ w'.heap.size) (hold : ∀ b, b < w.heap.size → b ≠ l.blk → w'.heap[b]? = w.heap[b]?)
    (ht : w'.tape = w.tape) (hos : w'.os = w.os) (hout : w'.output = w.output)
    (hl' : l'.blk = l.blk ∨ w.heap.size ≤ l'.blk) (hlt : l'.blk < w'.heap.size) (he : l' = l ∨ (l.ver < l'.ver ∧ l.mp = false ∧ l'.mp = false))
    (ho : ORel (upd φ i l') w' l' o') :
    HRel (upd φ i l') (A.set i o') w' ∧ Fr φ A w (upd φ i l') (A.set i o') w' := by
  have hil : i < A.length := (List.getElem?_eq_some_iff.1 hi).1
  have hext : Ext φ (upd φ i l') := by
    intro j m hj
    by_cases hji : j = i
    · subst hji
      rw [hl] at hj; cases hj
      exact ⟨l', by simp, he⟩
    · exact ⟨m, by rw [upd_ne hji]; exact hj, .inl rfl⟩
  have get : ∀ (j : Nat) (p : AObj), (A.set i o')[j]? = some p → (j ≠ i ∧ A[j]? = some p) ∨ (j = i ∧ p = o') := by
    intro j p hj
    rw [List.getElem?_set] at hj
    split at hj
    · rename_i e; subst e; simp at hj; exact .inr ⟨rfl, hj.symm⟩
    · rename_i e; exact .inl ⟨fun x => e x.symm, hj⟩
  have apart : ∀ (j : Nat) (p : AObj) (m : Loc), j ≠ i → A[j]? = some p → p.alive = true → φ j = some m → m.blk ≠ l.blk ∧ m.blk < w.heap.size := by
    intro j p m hj hp hal hm
    refine ⟨fun e => h.sep i j o p l m (fun x => hj x.symm) hi hp hw hal hl hm e.symm, ?_⟩
    exact (h.obj j p m hm hp hal).1
  constructor
  · refine ⟨?_, ?_, ?_⟩
    · intro j hj
      simp at hj
      rw [upd_ne (by omega)]
      exact h.dom j hj
    · intro j p m hm hj hp
      rcases get j p hj with ⟨h1, h2⟩ | ⟨rfl, rfl⟩
      · rw [upd_ne h1] at hm
        obtain ⟨hb, hr⟩ := h.obj j p m hm h2 hp
        have := apart j p m h1 h2 hp hm
        exact ⟨by omega, hr.mono hext (hold _ hb this.1)⟩
      · rw [upd_same] at hm; cases hm
        exact ⟨hlt, ho⟩
    · intro j k p q m n hjk hj hk hp hq hm hn
      rcases get j p hj with ⟨h1, h2⟩ | ⟨rfl, rfl⟩ <;> rcases get k q hk with ⟨h3, h4⟩ | ⟨rfl, rfl⟩
      · rw [upd_ne h1] at hm; rw [upd_ne h3] at hn
        exact h.sep j k p q m n hjk h2 h4 hp hq hm hn
      · rw [upd_ne h1] at hm; rw [upd_same] at hn; cases hn
        have := apart j p m h1 h2 (AObj.alive_of_wr hp) hm
        rcases hl' with e | e <;> omega
      · rw [upd_ne h3] at hn; rw [upd_same] at hm; cases hm
        have := apart k q n h3 h4 hq hn
        rcases hl' with e | e <;> omega
      · exact absurd rfl hjk
  · refine ⟨hsz, by simp, ?_, ?_, ?_, hext, ?_, ht, hos, hout⟩
    · intro b hb hn
      exact hold b hb fun e => hn i o l hi hw hl e.symm
    · intro j p m hj hp hm hb
      rcases get j p hj with ⟨h1, h2⟩ | ⟨rfl, rfl⟩
      · rw [upd_ne h1] at hm
        exact ⟨j, p, m, h2, hp, hm, rfl⟩
      · rw [upd_same] at hm; cases hm
        rcases hl' with e | e
        · exact ⟨j, o, l, hi, hw, hl, e.symm⟩
        · omega
    · intro j hj hr
      refine upd_ne fun e => ?_
      subst e
      have := hr o hi
      rw [hw] at this; cases this
    · intro j hj hr p hp
      rcases get j p hp with ⟨h1, h2⟩ | ⟨rfl, rfl⟩
      · exact hr p h2
      · have := hr o hi
        rw [hw] at this; cases this

end Go.Dx
end

section
/- The data layer, part three: what one operation does with data (no call, no order). -/
namespace Go.Dx

inductive Upd where
  | keep
  | new (o : AObj)
  | set (i : Nat) (o : AObj)

def Upd.on : Upd → Hp → Hp
  | .keep, A => A
  | .new o, A => A ++ [o]
  | .set i o, A => A.set i o

def splice (cs : List Value) (off : Nat) (vs : List Value) : List Value := cs.take off ++ vs ++ cs.drop (off + vs.length)

def szOf (P : Program) (t : TypeId) : Option Nat := (P.info? t).map (·.size)
def zeroOf (P : Program) (t : TypeId) : Option Value := (P.info? t).bind (·.zero)
def bytesOf (P : Program) (t : TypeId) : Option Nat := (P.info? t).map (·.bytes)

def isAggD : TypeDesc → Bool
  | .struct _ | .array _ _ => true
  | _ => false

def dwrap (k : IntKind) (n : Int) : Int :=
  match k with
  | .i64 => if -9223372036854775808 ≤ n ∧ n ≤ 9223372036854775807 then n else k.wrap n
  | .u8 => if 0 ≤ n ∧ n ≤ 255 then n else k.wrap n
  | _ => k.wrap n

/-- The cells from a place on. -/
def rd (A : Hp) (a : Addr) (n : Nat) : Option (List Value) :=
  match a with
  | ⟨i, off, some v⟩ =>
    match A[i]? with
    | some (.cells b) => if b.ver = v ∧ off + n ≤ b.cs.length then some ((b.cs.drop off).take n) else none
    | _ => none
  | _ => none

def wrt (A : Hp) (a : Addr) (vs : List Value) : Option Upd :=
  match a with
  | ⟨i, off, some v⟩ =>
    match A[i]? with
    | some (.cells b) => if b.ro = false ∧ b.ver = v ∧ off + vs.length ≤ b.cs.length ∧ vs.all isCell = true then some (.set i (.cells { b with cs := splice b.cs off vs })) else none
    | _ => none
  | _ => none

def Addr.plus (a : Addr) (n : Nat) : Addr := { a with off := a.off + n }

/-- A part of a row of cells. -/
def dpart (P : Program) (t : TypeId) (cs : List Value) (off : Nat) : Option Value :=
  match P.underlying t, P.info? t with
  | some d, some i => if isAggD d then some (.agg ⟨(cs.drop off).take i.size⟩) else cs[off]?
  | _, _ => none

def dfill (place : Nat → Option (Nat × Nat)) (cells : List Value) : List (Nat × Value) → Option (List Value)
  | [] => some cells
  | (i, v) :: rest =>
    match place i with
    | none => none
    | some (off, size) =>
      if v.cells.toList.length = size ∧ off + v.cells.toList.length ≤ cells.length then dfill place (splice cells off v.cells.toList) rest else none

def dbuilt (P : Program) (t : TypeId) (parts : List (Nat × Value)) : Option (List Value) :=
  match P.info? t, P.underlying t with
  | some it, some (.array _ e) =>
    match it.zero, P.info? e with
    | some z, some ie => if flat z then dfill (fun i => some (i * ie.size, ie.size)) z.cells.toList parts else none
    | _, _ => none
  | some it, some (.struct fields) =>
    match it.zero, fields.toList.mapM (fun f => (P.info? f.type).map fun i => (f.offset, i.size)) with
    | some z, some places => if flat z then dfill (fun i => places[i]?) z.cells.toList parts else none
    | _, _ => none
  | _, _ => none

def rep (n : Nat) (z : List Value) : List Value := (List.replicate n z).flatten

def blt : List UInt8 → List UInt8 → Bool := Op.bytesLess

def dStr (op : BinOp) (a b : ByteArray) : Option Value :=
  match op with
  | .add => if a.data.toList.length + b.data.toList.length ≤ 1000000 then some (.string ⟨⟨a.data.toList ++ b.data.toList⟩⟩) else none
  | .eql => some (.bool (a.data.toList == b.data.toList))
  | .neq => some (.bool (!(a.data.toList == b.data.toList)))
  | .lss => some (.bool (blt a.data.toList b.data.toList))
  | .leq => some (.bool (blt a.data.toList b.data.toList || a.data.toList == b.data.toList))
  | .gtr => some (.bool (!(blt a.data.toList b.data.toList || a.data.toList == b.data.toList)))
  | .geq => some (.bool (!blt a.data.toList b.data.toList))
  | _ => none

def dInt (op : BinOp) (k : IntKind) (a b : Int) : Option Value :=
  match op with
  | .add => some (.int k (dwrap k (a + b)))
  | .sub => some (.int k (dwrap k (a - b)))
  | .mul => some (.int k (dwrap k (a * b)))
  | .quo => if b = 0 then none else some (.int k (dwrap k (a.tdiv b)))
  | .rem => if b = 0 then none else some (.int k (a.tmod b))
  | .and => some (.int k (k.wrap (BitVec.ofInt k.bits a &&& BitVec.ofInt k.bits b).toNat))
  | .or => some (.int k (k.wrap (BitVec.ofInt k.bits a ||| BitVec.ofInt k.bits b).toNat))
  | .xor => some (.int k (k.wrap (BitVec.ofInt k.bits a ^^^ BitVec.ofInt k.bits b).toNat))
  | .andNot => some (.int k (k.wrap (BitVec.ofInt k.bits a &&& ~~~BitVec.ofInt k.bits b).toNat))
  | .eql => some (.bool (a == b))
  | .neq => some (.bool (a != b))
  | .lss => some (.bool (decide (a < b)))
  | .leq => some (.bool (decide (a ≤ b)))
  | .gtr => some (.bool (decide (a > b)))
  | .geq => some (.bool (decide (a ≥ b)))
  | _ => none

def dShift (op : BinOp) (k : IntKind) (a b : Int) : Option Value :=
  if b < 0 then none else
  match op with
  | .shl => some (.int k (k.wrap (a * 2 ^ (min b.toNat k.bits))))
  | .shr => some (.int k (a.fdiv (2 ^ (min b.toNat k.bits))))
  | _ => none

/-- Are two cells equal? (numbers, strings, truth values) -/
def eqAtom : Value → Value → Option Bool
  | .int k a, .int k' b => if k = k' then some (a == b) else none
  | .string a, .string b => some (a.data.toList == b.data.toList)
  | .bool a, .bool b => some (a == b)
  | _, _ => none

/-- Are the fields of two structs equal? (fields of one cell: numbers, strings, truth values) -/
def eqFs (P : Program) : Nat → List Field → List Value → List Value → Option Bool
  | _, [], [], [] => some true
  | i, f :: fs, x :: xs, y :: ys =>
    if f.name = "_" ∨ f.offset ≠ i then none else
    match P.underlying f.type, x, y with
    | some (.int _), .int k a, .int k' b => if k = k' then (eqFs P (i + 1) fs xs ys).map fun c => (a == b) && c else none
    | some .string, .string a, .string b => (eqFs P (i + 1) fs xs ys).map fun c => (a.data.toList == b.data.toList) && c
    | some .bool, .bool a, .bool b => (eqFs P (i + 1) fs xs ys).map fun c => (a == b) && c
    | _, _, _ => none
  | _, _, _, _ => none

def dEq (E : List TypeId) (P : Program) (t : TypeId) (x y : Value) : Option Bool :=
  match P.underlying t, x, y with
  | some .bool, .bool a, .bool b => some (a == b)
  | some (.slice _), .slice none _ _, .slice b _ _ => some b.isNone
  | some (.slice _), .slice (some _) _ _, .slice none _ _ => some false
  | some (.pointer _), .pointer none, .pointer b => some b.isNone
  | some (.pointer _), .pointer (some _), .pointer none => some false
  | some (.struct fs), .agg xs, .agg ys => if t ∈ E then eqFs P 0 fs.toList xs.toList ys.toList else none
  | _, _, _ => none

def dBin (E : List TypeId) (P : Program) (op : BinOp) (t : TypeId) (x y : Value) : Option Value :=
  match x, y with
  | .int k a, .int k' b =>
    match op with
    | .shl | .shr => dShift op k a b
    | _ => if k = k' then dInt op k a b else none
  | .string a, .string b => dStr op a b
  | x, y =>
    match op with
    | .eql => (dEq E P t x y).map .bool
    | .neq => (dEq E P t x y).map fun b => .bool (!b)
    | _ => none

def dUn (op : UnOp) (x : Value) : Option Value :=
  match op, x with
  | .not, .bool b => some (.bool (!b))
  | .neg, .int k n => some (.int k (dwrap k (0 - n)))
  | _, _ => none

def dConv (P : Program) (s d : TypeId) (x : Value) : Option Value :=
  match P.underlying s, P.underlying d, x with
  | some (.int _), some (.int k), .int _ n => some (.int k (dwrap k n))
  | some .string, some .string, .string b => some (.string b)
  | _, _, _ => none

def dBound (x : Option Value) (dflt top : Nat) : Option Nat :=
  match x with
  | none => some dflt
  | some (.int _ n) => if 0 ≤ n ∧ n ≤ (top : Int) then some n.toNat else none
  | _ => none

def dSlice (P : Program) (A : Hp) (t : TypeId) (x : Value) (lo hi mx : Option Value) : Option Value :=
  match P.underlying t, x with
  | some .string, .string s =>
    if mx.isSome then none else
    (dBound hi s.data.toList.length s.data.toList.length).bind fun h => (dBound lo 0 h).map fun l => .string ⟨⟨(s.data.toList.drop l).take (h - l)⟩⟩
  | some (.slice e), .slice a len cap =>
    (szOf P e).bind fun sz => (dBound mx cap cap).bind fun m => (if mx.isSome && hi.isNone then none else dBound hi len m).bind fun h => (dBound lo 0 h).bind fun l =>
      match a with
      | none => if len ≤ cap then some (.slice none (h - l) (m - l)) else none
      | some ⟨i, off, some v⟩ =>
        match A[i]? with
        | some (.cells b) => if b.ver = v ∧ (b.opn = false ∨ b.es = sz) then some (.slice (some ⟨i, off + l * sz, some v⟩) (h - l) (m - l)) else none
        | _ => none
      | _ => none
  | _, _ => none

def dAppend (A : Hp) (sz bytes : Nat) (s : Value) (vs : List Value) (n : Nat) : Option (Value × Upd) :=
  match s with
  | .slice none len cap =>
    if len = 0 ∧ cap = 0 then
      if n = 0 then some (.slice none 0 0, .keep)
      else if n * bytes ≤ 1000000000 ∧ n ≤ 1000000000 ∧ vs.all isCell = true then some (.slice (some ⟨A.length, 0, some 0⟩) n n, .new (.cells { cs := vs, ro := false, opn := true, es := sz, ver := 0 }))
      else none
    else none
  | .slice (some ⟨i, off, some v⟩) len cap =>
    if len + n ≤ cap then
      if n = 0 then some (.slice (some ⟨i, off, some v⟩) len cap, .keep)
      else (wrt A ⟨i, off + len * sz, some v⟩ vs).map fun u => (.slice (some ⟨i, off, some v⟩) (len + n) cap, u)
    else
      match A[i]? with
      | some (.cells b) =>
        if b.ver = v ∧ off + len * sz ≤ b.cs.length ∧ (len + n) * bytes ≤ 1000000000 ∧ len + n ≤ 1000000000 ∧ vs.all isCell = true then
          if b.opn = false ∨ off + cap * b.es < b.cs.length then
            some (.slice (some ⟨A.length, 0, some 0⟩) (len + n) (len + n), .new (.cells { cs := (b.cs.drop off).take (len * sz) ++ vs, ro := false, opn := true, es := sz, ver := 0 }))
          else if b.ro = false ∧ b.es = sz then
            some (.slice (some ⟨i, 0, some (b.ver + 1)⟩) (len + n) (len + n), .set i (.cells { cs := (b.cs.drop off).take (len * sz) ++ vs, ro := false, opn := true, es := sz, ver := b.ver + 1 }))
          else none
        else none
      | _ => none
  | _ => none

/-- The cells of a slice's first elements. -/
def rdFirst (A : Hp) (sz n : Nat) : Value → Option (List Value)
  | .slice none _ _ => if n = 0 then some [] else none
  | .slice (some a) _ _ => if n = 0 then some [] else rd A a (n * sz)
  | _ => none

def dKey : Value → Bool
  | .string _ => true
  | .int _ _ => true
  | _ => false

def dFind (k : Value) : List (Value × Value) → Option (Option Value)
  | [] => some none
  | (k', v) :: es => (eqAtom k k').bind fun b => if b then some (some v) else dFind k es

def dPut (k x : Value) : List (Value × Value) → Option (List (Value × Value))
  | [] => some [(k, x)]
  | (k', v) :: es => (eqAtom k k').bind fun b => if b then some ((k, x) :: es) else (dPut k x es).map fun r => (k', v) :: r

def dMinMax (lt : Int → Int → Bool) : Value → List Value → Option Value
  | v, [] => some v
  | .int k a, .int k' b :: r => if k = k' then dMinMax lt (.int k (if lt b a then b else a)) r else none
  | _, _ => none

def dCopy (A : Hp) (sz : Nat) (da : Option Addr) (dl : Nat) (xa : Option Addr) (xl xc : Nat) : Option (Value × Upd) :=
  if min xl dl = 0 then some (.int .i64 0, .keep)
  else match da with
    | some a => (rdFirst A sz (min xl dl) (.slice xa xl xc)).bind fun vs => (wrt A a vs).map fun u => (.int .i64 (min xl dl : Nat), u)
    | none => none

def dNil (v : Value) : Option (Value × Upd) :=
  match v with
  | .pointer (some a) => some (.pointer (some a), .keep)
  | .func (.func f) xs cs => some (.func (.func f) xs cs, .keep)
  | _ => none

def dBuiltin (P : Program) (b : Builtin) (ts : List TypeId) (args : List Value) (A : Hp) : Option (Value × Upd) :=
  match b, ts, args with
  | .len, t :: _, [x] =>
    match P.underlying t, x with
    | some .string, .string s => some (.int .i64 s.data.toList.length, .keep)
    | some (.slice _), .slice _ n _ => some (.int .i64 n, .keep)
    | some (.array n _), _ => some (.int .i64 n, .keep)
    | _, _ => none
  | .cap, t :: _, [x] =>
    match P.underlying t, x with
    | some (.slice _), .slice none _ n => some (.int .i64 n, .keep)
    | some (.slice _), .slice (some ⟨i, off, some v⟩) _ n =>
      match A[i]? with
      | some (.cells b) => if b.ver = v ∧ (b.opn = false ∨ off + n * b.es < b.cs.length) then some (.int .i64 n, .keep) else none
      | _ => none
    | _, _ => none
  | .append, [t, u], [s, x] =>
    match P.underlying t, P.underlying u with
    | some (.slice e), some (.slice e') =>
      if e = e' then
        match P.info? e, x with
        | some ie, .slice xa xl xc => match ie.zero with
          | some z => if z.cells.toList.length = ie.size then (rdFirst A ie.size xl (.slice xa xl xc)).bind fun vs => dAppend A ie.size ie.bytes s vs xl else none
          | none => none
        | _, _ => none
      else none
    | _, _ => none
  | .copy, [t, u], [d, x] =>
    match P.underlying t, P.underlying u with
    | some (.slice e), some (.slice e') =>
      match P.info? e, d, x with
      | some ie, .slice da dl _, .slice xa xl xc =>
        if e = e' then dCopy A ie.size da dl xa xl xc else none
      | _, _, _ => none
    | _, _ => none
  | .clear, [t], [x] =>
    match P.underlying t, x with
    | some (.slice _), .slice _ 0 _ => some (.tuple #[], .keep)
    | some (.slice e), .slice (some a) n _ => (zeroOf P e).bind fun z => if flat z then (wrt A a (rep n z.cells.toList)).map fun u => (.tuple #[], u) else none
    | _, _ => none
  | .min, _, x :: r => (dMinMax (fun a b => decide (a < b)) x r).map fun v => (v, .keep)
  | .max, _, x :: r => (dMinMax (fun a b => decide (a > b)) x r).map fun v => (v, .keep)
  | _, _, _ => none

def evs (ev : Operand → Option Value) : List Operand → Option (List Value)
  | [] => some []
  | x :: xs => (ev x).bind fun v => (evs ev xs).map fun r => v :: r

def evp (ev : Operand → Option Value) : List (Nat × Operand) → Option (List (Nat × Value))
  | [] => some []
  | (i, x) :: xs => (ev x).bind fun v => (evp ev xs).map fun r => (i, v) :: r

def evo (ev : Operand → Option Value) : Option Operand → Option (Option Value)
  | none => some none
  | some x => (ev x).map some

def dOp (E : List TypeId) (P : Program) (ev : Operand → Option Value) (A : Hp) (o : Op) : Option (Value × Upd) :=
  match o with
  | .move x | .assign x => (ev x).map fun v => (v, .keep)
  | .pick c a b => (ev c).bind fun c => match c with
    | .bool true => (ev a).map fun v => (v, .keep)
    | .bool false => (ev b).map fun v => (v, .keep)
    | _ => none
  | .alloc t => (zeroOf P t).bind fun z =>
    if flat z && z.cells.toList.all isCell then some (.pointer (some ⟨A.length, 0, some 0⟩), .new (.cells { cs := z.cells.toList, ro := false, opn := false, es := 1, ver := 0 })) else none
  | .box _ x => (ev x).bind fun v =>
    if v.cells.toList.all isCell then some (.pointer (some ⟨A.length, 0, some 0⟩), .new (.cells { cs := v.cells.toList, ro := false, opn := false, es := 1, ver := 0 })) else none
  | .build t parts => (evp ev parts.toList).bind fun ps => (dbuilt P t ps).map fun cs => (.agg ⟨cs⟩, .keep)
  | .buildSlice t n parts => (evp ev parts.toList).bind fun ps =>
    match P.underlying t with
    | some (.slice e) => match P.info? e with
      | some ie => match ie.zero with
        | some z => if flat z && decide (z.cells.toList.length = ie.size) && decide (n * ie.size ≤ 16777216) then
            (dfill (fun i => some (i * ie.size, ie.size)) (rep n z.cells.toList) ps).bind fun cs =>
              if cs.all isCell then some (.slice (some ⟨A.length, 0, some 0⟩) n n, .new (.cells { cs := cs, ro := false, opn := false, es := ie.size, ver := 0 })) else none
          else none
        | none => none
      | none => none
    | _ => none
  | .load t a => (ev a).bind fun a => match a with
    | .pointer (some p) => match P.underlying t, P.info? t with
      | some d, some i => if isAggD d then (rd A p i.size).map fun cs => (.agg ⟨cs⟩, .keep) else (rd A p 1).bind fun cs => cs[0]?.map fun v => (v, .keep)
      | _, _ => none
    | _ => none
  | .store t a x => (ev a).bind fun a => (ev x).bind fun v => match a with
    | .pointer (some p) => match P.info? t with
      | some i => if v.cells.toList.length = i.size then (wrt A p v.cells.toList).map fun u => (.tuple #[], u) else none
      | none => none
    | _ => none
  | .nilCheck x => (ev x).bind dNil
  | .binOp op t x y _ => (ev x).bind fun a => (ev y).bind fun b => (dBin E P op t a b).map fun v => (v, .keep)
  | .unOp op _ x => (ev x).bind fun a => (dUn op a).map fun v => (v, .keep)
  | .convert s d x => (ev x).bind fun a => (dConv P s d a).map fun v => (v, .keep)
  | .makeFunc (.func f) xs cs => (evs ev xs.toList).bind fun a => (evs ev cs.toList).map fun b => (.func (.func f) ⟨a⟩ ⟨b⟩, .keep)
  | .makeInterface t x => (ev x).bind fun v => match P.underlying t with
    | some (.interface _) | none => none
    | _ => some (.iface t v, .keep)
  | .makeMap _ none => some (.map (some A.length), .new (.map [] false))
  | .makeSlice t l c => (ev l).bind fun l => (ev c).bind fun c => match P.underlying t, l, c with
    | some (.slice e), .int _ l, .int _ c => match P.info? e with
      | some ie => match ie.zero with
        | some z => if flat z && decide (z.cells.toList.length = ie.size) && decide (0 ≤ l ∧ l ≤ c ∧ c ≤ 1000000000 ∧ c.toNat * ie.bytes ≤ 1000000000) && z.cells.toList.all isCell then
            some (.slice (some ⟨A.length, 0, some 0⟩) l.toNat c.toNat, .new (.cells { cs := rep c.toNat z.cells.toList, ro := false, opn := false, es := ie.size, ver := 0 }))
          else none
        | none => none
      | none => none
    | _, _, _ => none
  | .slice t x lo hi mx => (ev x).bind fun x => (evo ev lo).bind fun lo => (evo ev hi).bind fun hi => (evo ev mx).bind fun mx => (dSlice P A t x lo hi mx).map fun v => (v, .keep)
  | .fieldAddr s x f => (ev x).bind fun x => match P.underlying s, x with
    | some (.struct fields), .pointer (some ⟨i, off, some v⟩) => match fields.toList[f]? with
      | some fd => match szOf P fd.type with
        | some (_ + 1) => some (.pointer (some ⟨i, off + fd.offset, some v⟩), .keep)
        | _ => none
      | none => none
    | _, _ => none
  | .field t x f => (ev x).bind fun x => match P.underlying t, x with
    | some (.struct fields), .agg cs => match fields.toList[f]? with
      | some fd => (dpart P fd.type cs.toList fd.offset).map fun v => (v, .keep)
      | none => none
    | _, _ => none
  | .indexAddr t x ix => (ev x).bind fun x => (ev ix).bind fun ix => match P.underlying t, x, ix with
    | some (.slice e), .slice (some ⟨i, off, some v⟩) len _, .int _ n =>
      if 0 ≤ n ∧ n < (len : Int) then (szOf P e).map fun sz => (.pointer (some ⟨i, off + n.toNat * sz, some v⟩), .keep) else none
    | some (.array len e), .pointer (some ⟨i, off, some v⟩), .int _ n =>
      if 0 ≤ n ∧ n < (len : Int) then (szOf P e).map fun sz => (.pointer (some ⟨i, off + n.toNat * sz, some v⟩), .keep) else none
    | _, _, _ => none
  | .index t x ix => (ev x).bind fun x => (ev ix).bind fun ix => match P.underlying t, x, ix with
    | some (.array len e), .agg cs, .int _ n =>
      if 0 ≤ n ∧ n < (len : Int) then (szOf P e).bind fun sz => (dpart P e cs.toList (n.toNat * sz)).map fun v => (v, .keep) else none
    | some .string, .string s, .int _ n =>
      if 0 ≤ n then (s.data.toList[n.toNat]?).map fun c => (.int .u8 c.toNat, .keep) else none
    | _, _, _ => none
  | .lookup t x ix ok => (ev x).bind fun x => (ev ix).bind fun k => match P.underlying t, x with
    | some (.map kt et), .map (some i) => match A[i]?, P.underlying kt with
      | some (.map es _), some .string => match k with
        | .string _ => (zeroOf P et).bind fun z => if flat z then (dFind k es).map fun r =>
            (if ok then .tuple #[r.getD z, .bool r.isSome] else r.getD z, .keep) else none
        | _ => none
      | _, _ => none
    | _, _ => none
  | .mapUpdate t m k x => (ev m).bind fun m => (ev k).bind fun k => (ev x).bind fun x => match P.underlying t, m with
    | some (.map kt _), .map (some i) => match A[i]?, P.underlying kt with
      | some (.map es false), some .string => match k with
        | .string _ => (dPut k x es).map fun es' => (.tuple #[], .set i (.map es' false))
        | _ => none
      | _, _ => none
    | _, _ => none
  | .range t x => (ev x).bind fun x => match P.underlying t, x with
    | some .string, .string s => some (.pointer (some ⟨A.length, 0, some 0⟩), .new (.iter s 0))
    | _, _ => none
  | .next it true => (ev it).bind fun it => match it with
    | .pointer (some ⟨i, 0, some 0⟩) => match A[i]? with
      | some (.iter s pos) => if pos < s.size then
          let (c, width) := Utf8.decode s pos
          some (.tuple #[.bool true, .int .i64 pos, .int .i32 c], .set i (.iter s (pos + width)))
        else some (.tuple #[.bool false], .keep)
      | _ => none
    | _ => none
  | .extract t ix => (ev t).bind fun t => match t with
    | .tuple vs => (vs.toList[ix]?).map fun v => (v, .keep)
    | _ => none
  | .call { callee := .builtin b, args, argTypes } => (evs ev args.toList).bind fun vs => dBuiltin P b argTypes.toList vs A
  | _ => none

end Go.Dx
end

section
/- The data layer: a run with data, by fuel. -/
namespace Go.Dx

structure St where
  t : List Value
  A : Hp

def evOp (t : List Value) : Operand → Option Value
  | .tmp i => t[i]?
  | .const v => if flat v then some v else none
  | .global _ => none
  | .func f => some (.func (.func f) #[] #[])

def put (t : List Value) (d : Option Tmp) (v : Value) : List Value :=
  match d with
  | some d => t.set d v
  | none => t

def wantedD (ops : List Oper) (t : List Value) (o : Oper) : Bool :=
  match o.guard with
  | none => true
  | some (j, b) =>
    match ops[j]? with
    | some oj => match oj.dst with
      | some d => match t[d]? with
        | some (.bool c) => c == b
        | _ => false
      | none => false
    | none => false

abbrev CallF := FuncId → List Value → Hp → Option (Value × Hp)

/-- Is it a call of a function of the program? -/
def callee (ev : Operand → Option Value) (o : Op) : Option (FuncId × List Value) :=
  match o with
  | .call { callee := .value f, args, .. } => (ev f).bind fun f => (evs ev args.toList).bind fun vs => match f with
    | .func (.func g) xs cs => some (g, xs.toList ++ vs ++ cs.toList)
    | _ => none
  | _ => none

def runOps (E : List TypeId) (P : Program) (call : CallF) (ops : List Oper) : List Oper → St → Option St
  | [], s => some s
  | o :: rest, s =>
    if wantedD ops s.t o then
      match callee (evOp s.t) o.op with
      | some (f, args) => (call f args s.A).bind fun (v, A) => runOps E P call ops rest ⟨put s.t o.dst v, A⟩
      | none => (dOp E P (evOp s.t) s.A o.op).bind fun (v, u) => runOps E P call ops rest ⟨put s.t o.dst v, u.on s.A⟩
    else runOps E P call ops rest ⟨put s.t o.dst undef, s.A⟩

def loopN (body : St → Option (Exit × St)) : Nat → St → Option (Exit × St)
  | 0, _ => none
  | n + 1, s => (body s).bind fun (e, s') => match e with
    | .normal => loopN body n s'
    | e => some (e, s')

def runCode (E : List TypeId) (P : Program) (call : CallF) (k : Nat) : Code → St → Option (Exit × St)
  | .skip, s => some (.normal, s)
  | .region _ ops _, s => (runOps E P call ops.toList ops.toList s).map fun s' => (.normal, s')
  | .seq a b, s => (runCode E P call k a s).bind fun (e, s') => match e with
    | .normal => runCode E P call k b s'
    | e => some (e, s')
  | .cond c x y, s => match evOp s.t c with
    | some (.bool true) => runCode E P call k x s
    | some (.bool false) => runCode E P call k y s
    | _ => none
  | .block id b, s => (runCode E P call k b s).map fun (e, s') => match e with
    | .exit id' => if id' = id then (.normal, s') else (.exit id', s')
    | e => (e, s')
  | .loop b, s => loopN (runCode E P call k b) k s
  | .exit id, s => some (.exit id, s)
  | .ret, s => some (.ret, s)
  | .label _, s => some (.normal, s)
  | _, _ => none

def dRes (P : Program) (s : St) : ResultVar → Option Value
  | .tmp t => s.t[t]?
  | .cell a t => (s.t[a]?).bind fun a => match a with
    | .pointer (some p) => match P.underlying t, P.info? t with
      | some d, some i => if isAggD d then (rd s.A p i.size).map fun cs => .agg ⟨cs⟩ else (rd s.A p 1).bind fun cs => cs[0]?
      | _, _ => none
    | _ => none

def dRess (P : Program) (s : St) : List ResultVar → Option (List Value)
  | [] => some []
  | r :: rs => (dRes P s r).bind fun v => (dRess P s rs).map fun vs => v :: vs

def dResults (P : Program) (fn : Func) (s : St) : Option Value :=
  (dRess P s fn.results.toList).map fun vs => match vs with
    | [v] => v
    | vs => .tuple ⟨vs⟩

def runCall (E : List TypeId) (P : Program) (k : Nat) : Nat → CallF
  | 0 => fun _ _ _ => none
  | n + 1 => fun f args A =>
    match P.funcs[f]? with
    | none => none
    | some fn => match fn.body with
      | none => none
      | some c => (runCode E P (runCall E P k n) k c ⟨args ++ List.replicate (fn.ntmps - args.length) undef, A⟩).bind fun (e, s) => match e with
        | .normal | .ret => (dResults P fn s).map fun v => (v, s.A)
        | _ => none

end Go.Dx
end

