import Derived.Test.YtdfepbmcglnhcaaEngU
set_option linter.unusedSimpArgs false
set_option linter.unusedVariables false
/-! What the printed walks use. -/
namespace Go.Eng
open Go
variable {P : Program}

abbrev W (n : Int) : Int := IntKind.i64.wrap n
def I (n : Int) : DV := .v (.int .i64 n)
def K (k : IntKind) (n : Int) : DV := .v (.int k n)
def B (b : Bool) : DV := .v (.bool b)
def Z (s : ByteArray) : DV := .v (.string s)
def bs (l : List UInt8) : ByteArray := ⟨l.toArray⟩
def R {α : Type} (fl : Bool) (esz : Nat) (c : α → List DV) (l : List α) : DV := .ro fl esz l.length (l.map c)
def Row {α : Type} (fl : Bool) (T esz : Nat) (c : α → List DV) (l : List α) : Ob := .row fl T esz l.length (l.map c)
def cI (n : Int) : List DV := [I n]
def cK (k : IntKind) (n : Int) : List DV := [K k n]
def cB (b : Bool) : List DV := [B b]
def cZ (s : ByteArray) : List DV := [Z s]
def cL {α : Type} (fl : Bool) (esz : Nat) (c : α → List DV) (l : List α) : List DV := [R fl esz c l]
def imax (a b : Int) : Int := if a < b then b else a
def imin (a b : Int) : Int := if b < a then b else a

def bodyOf (f : Func) : Code := f.body.getD .skip
def mkF : Nat → Nat → List (Nat × DV) → List DV
  | 0, _, _ => []
  | n + 1, i, [] => .un :: mkF n (i + 1) []
  | n + 1, i, (t, d) :: l => if t == i then d :: mkF n (i + 1) l else .un :: mkF n (i + 1) ((t, d) :: l)
def mkS (n : Nat) (l : List (Nat × DV)) (ob : Obs) : St := ⟨mkF n 0 l, ob⟩

def firstR : Code → Option Nat
  | .seq a b => match firstR a with | some r => some r | none => firstR b
  | .region i _ _ => some i
  | .cond _ a b => match firstR a with | some r => some r | none => firstR b
  | .block _ c => firstR c
  | .loop c => firstR c
  | _ => none
def findL (id : Nat) : Code → List It → Option (List It)
  | .seq a b, k => match findL id a (.code b :: k) with | some r => some r | none => findL id b k
  | .cond _ a b, k => match findL id a k with | some r => some r | none => findL id b k
  | .block i c, k => findL id c (.endb i :: k)
  | .loop c, k => if firstR c == some id then some (.code (.loop c) :: k) else findL id c (.lp c :: k)
  | _, _ => none
def findR (id : Nat) : Code → List It → Option (List It)
  | .seq a b, k => match findR id a (.code b :: k) with | some r => some r | none => findR id b k
  | .cond _ a b, k => match findR id a k with | some r => some r | none => findR id b k
  | .block i c, k => findR id c (.endb i :: k)
  | .loop c, k => findR id c (.lp c :: k)
  | .region i os d, k => if i == id then some (.code (.region i os d) :: k) else none
  | _, _ => none
def itsL (id : Nat) (c : Code) : List It := (findL id c []).getD []
def itsR (id : Nat) (c : Code) : List It := (findR id c []).getD []

/-! the plain functions' parts -/
def fuelN : Nat := 2 ^ 64
def ifE {α : Type} (c : Bool) (a b : Option α) : Option α := match c with | true => a | false => b
def guardE {α : Type} (p : Prop) [Decidable p] (a : Option α) : Option α := if p then a else none
def getE {α : Type} (l : List α) (i : Int) : Option α := if 0 ≤ i then l[i.toNat]? else none
def getS {α : Type} (l : List α) (lo hi : Int) : Option (List α) := if 0 ≤ lo ∧ lo ≤ hi ∧ hi ≤ (l.length : Int) then some ((l.take hi.toNat).drop lo.toNat) else none

def getB (s : ByteArray) (i : Int) : Option UInt8 := if 0 ≤ i then s[i.toNat]? else none
def toStr (l : List Int) : Option ByteArray := if l.all (fun x => decide (0 ≤ x ∧ x < 256)) = true then some ⟨(l.map fun x => UInt8.ofNat x.toNat).toArray⟩ else none
theorem getB_sx {s : ByteArray} {i : Int} {b : UInt8} (h : getB s i = some b) : 0 ≤ i ∧ s[i.toNat]? = some b := by
  unfold getB at h
  split at h
  · rename_i h0; exact ⟨h0, h⟩
  · cases h
theorem toStr_of {l : List Int} {s : ByteArray} (h : toStr l = some s) : l.map (cK .u8) = s.data.toList.map fun c => [.v (.int .u8 (c.toNat : Int))] := by
  unfold toStr at h
  split at h
  · rename_i h0
    cases h
    simp only [List.all_eq_true, decide_eq_true_eq] at h0
    simp only [List.map_map]
    apply List.map_congr_left
    intro x hx
    obtain ⟨h1, h2⟩ := h0 x hx
    simp only [Function.comp_apply, cK, K]
    congr 3
    simp [UInt8.toNat_ofNat]
    omega
  · cases h
theorem mks_of {α : Type} (c : α → List DV) {z : α} {n : Int} (h : 0 ≤ n) : n = ((List.replicate n.toNat z).length : Int) ∧ n = ((List.replicate n.toNat z).length : Int) ∧ List.replicate (List.replicate n.toNat z).length (c z) = (List.replicate n.toNat z).map c := by
  simp; omega

section
variable {α β : Type} {r : α} {Q : Prop}
theorem ifE_cases {c : Bool} {a b : Option α} (h : ifE c a b = some r) (ht : c = true → a = some r → Q) (hf : c = false → b = some r → Q) : Q := by
  cases c with
  | true => exact ht rfl h
  | false => exact hf rfl h
theorem guardE_cases {p : Prop} [Decidable p] {a : Option α} (h : guardE p a = some r) (k : p → a = some r → Q) : Q := by
  unfold guardE at h
  split at h
  · exact k (by assumption) h
  · cases h
theorem bind_cases {x : Option β} {f : β → Option α} (h : x.bind f = some r) (k : ∀ y, x = some y → f y = some r → Q) : Q := by
  cases x with
  | none => cases h
  | some y => exact k y rfl h
theorem eq_of {a b : Int} (h : (a == b) = true) : a = b := by simpa using h
theorem leaf {r0 : α} (h : some r0 = some r) (k : r0 = r → Q) : Q := k (Option.some.inj h)

variable {l : List α} {i : Int} {x : α}
theorem getE_el (c : α → List DV) (h : getE l i = some x) : 0 ≤ i ∧ (l.map c)[i.toNat]? = some (c x) := by
  unfold getE at h
  split at h
  · rename_i h0; exact ⟨h0, by simp [h]⟩
  · cases h
theorem getE_ib (h : getE l i = some x) : 0 ≤ i ∧ i < ((l.length : Nat) : Int) := by
  unfold getE at h
  split at h
  · rename_i h0
    refine ⟨h0, ?_⟩
    rcases Nat.lt_or_ge i.toNat l.length with h1 | h1
    · omega
    · rw [List.getElem?_eq_none h1] at h; cases h
  · cases h
theorem getE_pw (c : α → List DV) (h : getE l i = some x) : 0 ≤ ((i.toNat : Nat) : Int) ∧ (l.map c)[((i.toNat : Nat) : Int).toNat]? = some (c x) := by
  exact ⟨by omega, (getE_el c h).2⟩
theorem getS_seg {lo hi : Int} {l' : List α} (c : α → List DV) (h : getS l lo hi = some l') : 0 ≤ lo ∧ lo ≤ hi ∧ hi ≤ ((l.length : Nat) : Int) ∧ ((l.map c).take hi.toNat).drop lo.toNat = l'.map c ∧ (l'.map c).length = l'.length := by
  unfold getS at h
  split at h
  · rename_i h0
    cases h
    exact ⟨h0.1, h0.2.1, h0.2.2, by simp [List.map_take, List.map_drop], by simp⟩
  · cases h
theorem cat_of (c : α → List DV) (l m : List α) : l.map c ++ m.map c = (l ++ m).map c ∧ (l ++ m).length = l.length + m.length := by simp
theorem set_of (c : α → List DV) (l : List α) (i : Nat) (x : α) : (l.map c).set i (c x) = (l.set i x).map c ∧ l.length = (l.set i x).length := by simp [List.map_set]
end

/-- a nil slice is a row without elements -/
inductive Fits0 : DV → DV → Prop
  | refl {d : DV} : Fits0 d d
  | nl {fl : Bool} {esz : Nat} : Fits0 .nl (.ro fl esz 0 [])
inductive FitsA : List DV → List DV → Prop
  | nil : FitsA [] []
  | cons {d d' : DV} {l l' : List DV} (h : Fits0 d d') (k : FitsA l l') : FitsA (d :: l) (d' :: l')
inductive Fits1 : DV → DV → Prop
  | refl {d : DV} : Fits1 d d
  | nl {fl : Bool} {esz : Nat} : Fits1 .nl (.ro fl esz 0 [])
  | ag {cs cs' : List DV} (h : FitsA cs cs') : Fits1 (.ag cs) (.ag cs')
inductive FitsL : List DV → List DV → Prop
  | nil : FitsL [] []
  | cons {d d' : DV} {l l' : List DV} (h : Fits1 d d') (k : FitsL l l') : FitsL (d :: l) (d' :: l')

theorem nil_rp {w : World} {ok : Nat → Prop} (fl : Bool) (esz : Nat) : RP w ok (.ro fl esz 0 []) (.slice none 0 0) :=
  .ro fl esz 0 [] none 0 ⟨0, 0, none⟩ (fun _ _ => undef') rfl (Nat.le_refl _) (by simp [maxLen]) (.inl rfl) (fun l hl => by cases hl) (fun _ l hl => by cases hl) (fun i j hi => by omega) (fun i j hi => by omega) (fun i j hi => by omega)

theorem Fits0.ok {E : Env} {d d' : DV} {x : Value} (h : Fits0 d d') (hx : RV0 E d x) : RV0 E d' x := by
  cases h with
  | refl => exact hx
  | nl => have : x = .slice none 0 0 := hx; subst this; exact nil_rp _ _
theorem FitsA.len {l l' : List DV} (h : FitsA l l') : l'.length = l.length := by induction h <;> simp_all
theorem FitsA.ok {E : Env} {l l' : List DV} (h : FitsA l l') : ∀ (j : Nat) (x : Value), j < l.length → RV0 E (l.getD j .un) x → RV0 E (l'.getD j .un) x := by
  induction h with
  | nil => intro j x hj; simp at hj
  | cons h k ih =>
    intro j x hj hx
    cases j with
    | zero => exact h.ok (by simpa using hx)
    | succ j => simpa using ih j x (by simpa using hj) (by simpa using hx)
theorem Fits1.ok {E : Env} {d d' : DV} {x : Value} (h : Fits1 d d') (hx : RV1 E d x) : RV1 E d' x := by
  cases h with
  | refl => exact hx
  | nl => have : x = .slice none 0 0 := hx; subst this; exact nil_rp _ _
  | ag h =>
    obtain ⟨vs, rfl, h2, h3⟩ := hx
    exact ⟨vs, rfl, by rw [h2, h.len], fun j hj => ⟨h.ok j _ (by rw [← h.len]; exact hj) (h3 j (by rw [← h.len]; exact hj)).1, (h3 j (by rw [← h.len]; exact hj)).2⟩⟩
theorem FitsL.len {l l' : List DV} (h : FitsL l l') : l'.length = l.length := by induction h <;> simp_all
theorem FitsL.ok {E : Env} {l l' : List DV} (h : FitsL l l') : ∀ (j : Nat) (x : Value), j < l.length → RV1 E (l.getD j .un) x → RV1 E (l'.getD j .un) x := by
  induction h with
  | nil => intro j x hj; simp at hj
  | cons h k ih =>
    intro j x hj hx
    cases j with
    | zero => exact h.ok (by simpa using hx)
    | succ j => simpa using ih j x (by simpa using hj) (by simpa using hx)
theorem Fn.fits {f : Nat} {as as' : List DV} {pre post : Obs} {r : DV} (hf : FitsL as' as) (h : Fn P f as pre post r) : Fn P f as' pre post r :=
  fun w bo σ ok vs hl hv h1 h2 h3 h4 => h w bo σ ok vs (by rw [hl, hf.len]) (fun j hj => hf.ok j _ (by rw [← hf.len]; exact hj) (hv j (by rw [← hf.len]; exact hj))) h1 h2 h3 h4

end Go.Eng
