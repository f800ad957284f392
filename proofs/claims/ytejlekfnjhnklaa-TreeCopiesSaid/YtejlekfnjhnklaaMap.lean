/-
  Maps keyed by strings, as partial functions on byte lists: what a block of the heap holds, and what each operation on it does. Over any program.
-/
import Derived.Maps.OwnSet
import Derived.Maps.RangeWalk
import Derived.Sort.KeysCollected
import Derived.WalkKit
import Derived.WideKeyEntry
namespace Go.Proofs.Ytejlekfnjhnklaa
open Go.RowKit Go.Maps
open Go.ChangeMaps (setBlock)

/-- A fact that the walk's simp does not see. -/
structure Hid (p : Prop) : Prop where
  out : p

abbrev Str := List UInt8
abbrev bs (x : Str) : ByteArray := ⟨x.toArray⟩

theorem str_of (s : ByteArray) : s = bs s.data.toList := by cases s; simp [bs]

/-- How a map's elements of one kind read. -/
structure Elem (α : Type) where
  R : Value → Option (DataW Unit × List MemPlace)
  val : α → Value
  enc : α → DataW Unit
  reads : ∀ a, R (val a) = some (enc a, [])
  inv : ∀ v a ps, R v = some (enc a, ps) → v = val a
  inj : ∀ a b, enc a = enc b → a = b

/-- Elements that are maps, or nil: told by their blocks. -/
def RM (v : Value) : Option (DataW Unit × List MemPlace) := match v with
  | .map none => some (.nil, [])
  | .map (some b) => some (.lit (.int .i64 b), [])
  | _ => none
def eM : Elem Nat where
  R := RM
  val b := .map (some b)
  enc b := .lit (.int .i64 b)
  reads _ := rfl
  inv v a ps h := by
    unfold RM at h
    split at h <;> simp at h
    rename_i b
    obtain ⟨h, _⟩ := h
    have : b = a := by omega
    rw [this]
  inj a b h := by simp at h; omega

/-- Elements that are bools. -/
def RB (v : Value) : Option (DataW Unit × List MemPlace) := match v with
  | .bool b => some (.lit (.bool b), [])
  | _ => none
def eB : Elem Bool where
  R := RB
  val b := .bool b
  enc b := .lit (.bool b)
  reads _ := rfl
  inv v a ps h := by
    unfold RB at h
    split at h <;> simp at h
    rw [h.1]
  inj a b h := by simpa using h

/-- Elements that are ints. -/
def RI (v : Value) : Option (DataW Unit × List MemPlace) := match v with
  | .int .i64 n => some (.lit (.int .i64 n), [])
  | _ => none
def eI : Elem Int where
  R := RI
  val n := .int .i64 n
  enc n := .lit (.int .i64 n)
  reads _ := rfl
  inv v a ps h := by
    unfold RI at h
    split at h <;> simp at h
    rw [h.1]
  inj a b h := by simpa using h

/-- Elements that are strings. -/
def RS (v : Value) : Option (DataW Unit × List MemPlace) := match v with
  | .string s => some (.lit (.string s.data.toList), [])
  | _ => none
def eS : Elem Str where
  R := RS
  val s := .string (bs s)
  enc s := .lit (.string s)
  reads _ := by simp [RS]
  inv v a ps h := by
    unfold RS at h
    split at h <;> simp at h
    rw [← h.1, ← str_of]
  inj a b h := by simpa using h

/-- BLOCK b IS A MAP of at most n entries, whose keys are strings: key x holds 'f x'. -/
def MapG {α : Type} (P : Program) (k : TypeId) (E : Elem α) (w : World) (b n : Nat) (f : Str → Option α) : Prop :=
  ∃ D, w.ownsMap P k E.R b n D ∧ (∀ x, Maps.has D (.string x) = (f x).isSome) ∧ ∀ x z, D.atKey (.string x) z = ((f x).map E.enc).getD z

def upd {α : Type} (f : Str → Option α) (x : Str) (a : Option α) : Str → Option α := fun y => if y = x then a else f y

theorem upd_same {α : Type} (f : Str → Option α) (x : Str) (a : Option α) : upd f x a x = a := by simp [upd]
theorem upd_other {α : Type} (f : Str → Option α) {x y : Str} (a : Option α) (h : y ≠ x) : upd f x a y = f y := by simp [upd, h]

section
variable {α : Type} {P : Program} {k e t : TypeId} {E : Elem α} {w w' : World} {b n : Nat} {f : Str → Option α}

theorem lit_ne {x y : Str} (h : y ≠ x) : (Lit.string y) ≠ .string x := by simpa using h

theorem keyOf_bs (hk : P.underlying k = some .string) {x : Str} (hx : x.length ≤ maxLen) : keyOf P k (.string (bs x)) = some (.string x) := by
  have := WideMaps.keyOf_string_mk (s := bs x) hk (by simpa [bs, ByteArray.size] using hx)
  simpa using this

theorem MapG.congr {g : Str → Option α} (h : MapG P k E w b n f) (e : ∀ x, f x = g x) : MapG P k E w b n g := by
  obtain rfl : f = g := funext e
  exact h

theorem MapG.mono {m : Nat} (h : MapG P k E w b n f) (hm : n ≤ m) : MapG P k E w b m f := by
  obtain ⟨D, ho, h1, h2⟩ := h
  exact ⟨D, ho.mono hm, h1, h2⟩

theorem MapG.lt (h : MapG P k E w b n f) : b < w.heap.size := by
  obtain ⟨D, ho, _⟩ := h
  exact ho.lt

/-- It stays while its block stays. -/
theorem MapG.same (h : MapG P k E w b n f) (hb : w'.heap[b]? = w.heap[b]?) : MapG P k E w' b n f := by
  obtain ⟨D, ⟨es, clock, h0, F, hs, hD⟩, h1, h2⟩ := h
  exact ⟨D, ⟨es, clock, hb.trans h0, F, hs, hD⟩, h1, h2⟩

theorem MapG.same' (h : MapG P k E w b n f) {b' : Nat} (hb : w'.heap[b']? = w.heap[b]?) : MapG P k E w' b' n f := by
  obtain ⟨D, ⟨es, clock, h0, F, hs, hD⟩, h1, h2⟩ := h
  exact ⟨D, ⟨es, clock, hb.trans h0, F, hs, hD⟩, h1, h2⟩

theorem MapG.alloc (h : MapG P k E w b n f) (o : Obj) : MapG P k E (w.alloc o) b n f := by
  obtain ⟨D, ho, h1, h2⟩ := h
  exact ⟨D, ho.alloc o, h1, h2⟩

theorem MapG.made (w : World) (P : Program) (k : TypeId) (E : Elem α) : MapG P k E (w.alloc (.map #[] 0)) w.heap.size 0 (fun _ => none) :=
  ⟨_, World.ownsMap_made w P k E.R, fun _ => rfl, fun _ _ => rfl⟩

/-- Two maps are two blocks. -/
theorem MapG.is_map (h : MapG P k E w b n f) : ∃ es c, w.heap[b]? = some (.map es c) := by
  obtain ⟨D, ⟨es, clock, h0, _⟩, _⟩ := h
  exact ⟨es, clock, h0⟩

/-- 'm[x]', 'm[x]' with 'ok'. -/
theorem MapG.look (h : MapG P k E w b n f) (hk : P.underlying k = some .string) (ht : P.underlying t = some (.map k e)) {z : Value} (hz : (zeroValue e).run P w = .ok z w) {x : Str} (hx : x.length ≤ maxLen) (c : Bool) :
    (Instr.lookup t (.map (some b)) (.string (bs x)) c).run P w = .ok (match f x with
      | some a => if c then .tuple #[E.val a, .bool true] else E.val a
      | none => if c then .tuple #[z, .bool false] else z) w := by
  obtain ⟨D, ⟨es, clock, hb, F, _, rfl⟩, h1, h2⟩ := h
  rcases Maps.fit_look c (string_keyed hk) ht hz hb F (keyOf_bs hk hx) with ⟨hrun, _, hat⟩ | ⟨e0, y, _, _, hrun, hRv, hat, _⟩
  · have := h1 x
    rw [Maps.has_false_of_atKey hat] at this
    cases hf : f x with
    | none => exact hrun
    | some a => rw [hf] at this; cases this
  · have h3 := h1 x
    rw [Maps.has_true_of_atKey hat] at h3
    cases hf : f x with
    | none => rw [hf] at h3; cases h3
    | some a =>
      have h4 := h2 x .nil
      rw [hat, hf] at h4
      have h5 : y = (E.enc a, y.2) := by
        simp at h4
        rw [← h4]
      rw [h5] at hRv
      rw [E.inv _ _ _ hRv] at hrun
      exact hrun

theorem MapG.look_some (h : MapG P k E w b n f) (hk : P.underlying k = some .string) (ht : P.underlying t = some (.map k e)) {z : Value} (hz : (zeroValue e).run P w = .ok z w) {x : Str} (hx : x.length ≤ maxLen) {a : α} (hf : f x = some a) :
    (Instr.lookup t (.map (some b)) (.string (bs x)) false).run P w = .ok (E.val a) w := by
  have := h.look hk ht hz hx false
  rw [hf] at this
  simpa using this

theorem MapG.look_none (h : MapG P k E w b n f) (hk : P.underlying k = some .string) (ht : P.underlying t = some (.map k e)) {z : Value} (hz : (zeroValue e).run P w = .ok z w) {x : Str} (hx : x.length ≤ maxLen) (hf : f x = none) :
    (Instr.lookup t (.map (some b)) (.string (bs x)) false).run P w = .ok z w := by
  have := h.look hk ht hz hx false
  rw [hf] at this
  simpa using this

theorem MapG.look_ok_some (h : MapG P k E w b n f) (hk : P.underlying k = some .string) (ht : P.underlying t = some (.map k e)) {z : Value} (hz : (zeroValue e).run P w = .ok z w) {x : Str} (hx : x.length ≤ maxLen) {a : α} (hf : f x = some a) :
    (Instr.lookup t (.map (some b)) (.string (bs x)) true).run P w = .ok (.tuple #[E.val a, .bool true]) w := by
  have := h.look hk ht hz hx true
  rw [hf] at this
  simpa using this

theorem MapG.look_ok_none (h : MapG P k E w b n f) (hk : P.underlying k = some .string) (ht : P.underlying t = some (.map k e)) {z : Value} (hz : (zeroValue e).run P w = .ok z w) {x : Str} (hx : x.length ≤ maxLen) (hf : f x = none) :
    (Instr.lookup t (.map (some b)) (.string (bs x)) true).run P w = .ok (.tuple #[z, .bool false]) w := by
  have := h.look hk ht hz hx true
  rw [hf] at this
  simpa using this

/-- A nil map. -/
theorem nil_look (hk : P.underlying k = some .string) (ht : P.underlying t = some (.map k e)) {z : Value} (hz : (zeroValue e).run P w = .ok z w) {x : Str} (hx : x.length ≤ maxLen) (c : Bool) :
    (Instr.lookup t (.map none) (.string (bs x)) c).run P w = .ok (if c then .tuple #[z, .bool false] else z) w :=
  Maps.look_nil c (string_keyed hk) ht hz (keyOf_bs hk hx)

/-- 'm[x] = a'. -/
theorem MapG.store (h : MapG P k E w b n f) (hk : P.underlying k = some .string) (ht : P.underlying t = some (.map k e)) (hn : n < maxLen) {x : Str} (hx : x.length ≤ maxLen) (a : α) :
    ∃ w', (Instr.mapUpdate t (.map (some b)) (.string (bs x)) (E.val a)).run P w = .ok () w' ∧ MapG P k E w' b (n + 1) (upd f x (some a)) ∧ w.mapTurned w' b := by
  obtain ⟨D, ho, h1, h2⟩ := h
  obtain ⟨w', hrun, ho', ht'⟩ := ho.store (string_keyed hk) ht hn (keyOf_bs hk hx) (E.reads a)
  have hkl : WideAt.IsKeyLit (.string x) := (string_keyed hk).key (keyOf_bs hk hx)
  refine ⟨w', hrun, ⟨_, ho', fun y => ?_, fun y z => ?_⟩, ht'⟩
  · by_cases e1 : y = x
    · subst e1
      rw [Maps.has_put_same ho.isMap hkl]; simp [upd]
    · rw [Maps.has_put_other (lit_ne e1), h1]; simp [upd, e1]
  · by_cases e1 : y = x
    · subst e1
      rw [Maps.atKey_put_same ho.isMap hkl]; simp [upd]
    · rw [Maps.atKey_put_other (lit_ne e1), h2]; simp [upd, e1]

/-- 'm[x] = a' where x is there: no entry more. -/
theorem MapG.delete (h : MapG P k E w b n f) (hk : P.underlying k = some .string) (ht : P.underlying t = some (.map k e)) {x : Str} (hx : x.length ≤ maxLen) (ty : TypeId) :
    ∃ w', (Builtin.delete_ #[t, k] ty #[.map (some b), .string (bs x)]).run P w = .ok (.tuple #[]) w' ∧ MapG P k E w' b n (upd f x none) ∧ w.mapTurned w' b := by
  obtain ⟨D, ho, h1, h2⟩ := h
  obtain ⟨w', hrun, ho', ht'⟩ := ho.drop (string_keyed hk) ht (keyOf_bs hk hx) ty
  refine ⟨w', hrun, ⟨_, ho', fun y => ?_, fun y z => ?_⟩, ht'⟩
  · by_cases e1 : y = x
    · subst e1
      rw [Maps.has_del_same]; simp [upd]
    · rw [Maps.has_del_other (lit_ne e1), h1]; simp [upd, e1]
  · by_cases e1 : y = x
    · subst e1
      rw [Maps.atKey_del_same]; simp [upd]
    · rw [Maps.atKey_del_other (lit_ne e1), h2]; simp [upd, e1]

/-- Its keys, listed. -/
def KeysAre (f : Str → Option α) (l : List Str) : Prop := l.Nodup ∧ ∀ x, x ∈ l ↔ (f x).isSome = true

theorem perm_keys {D : DataW Unit} (ho : w.ownsMap P k E.R b n D) (hk : P.underlying k = some .string) (h1 : ∀ x, Maps.has D (.string x) = (f x).isSome) {l : List Str} (hl : KeysAre f l) : l.Perm (strKeys D) := by
  obtain ⟨es, rfl, hpw, _⟩ := ho.entries (string_keyed hk)
  obtain ⟨es', e', hko⟩ := ho.keysOf
  obtain rfl : es = es' := by simpa using e'
  exact perm_strKeys hpw (fun p hp => by obtain ⟨v, hv⟩ := hko p hp; obtain ⟨x, _, hx, _⟩ := Maps.keyOf_str hk hv; exact ⟨x, hx⟩) hl.1 (fun x => by rw [hl.2 x, h1 x])

theorem size_strKeys (D : DataW Unit) : (strKeys D).length = Maps.size D := by
  cases D <;> simp [strKeys, Maps.size]

theorem MapG.size (h : MapG P k E w b n f) (hk : P.underlying k = some .string) {l : List Str} (hl : KeysAre f l) : l.length ≤ n := by
  obtain ⟨D, ho, h1, h2⟩ := h
  rw [(perm_keys ho hk h1 hl).length_eq, size_strKeys]
  exact ho.size_le

/-- 'len(m)'. -/
theorem MapG.len (h : MapG P k E w b n f) (hk : P.underlying k = some .string) (ht : P.underlying t = some (.map k e)) {l : List Str} (hl : KeysAre f l) (ty : TypeId) :
    (Builtin.len_ #[t] ty #[.map (some b)]).run P w = .ok (.int .i64 l.length) w := by
  obtain ⟨D, ho, h1, h2⟩ := h
  rw [ho.len ht ty, (perm_keys ho hk h1 hl).length_eq, size_strKeys]

/-- How many entries it has at most: just as many as keys. -/
theorem MapG.tight (h : MapG P k E w b n f) (hk : P.underlying k = some .string) {l : List Str} (hl : KeysAre f l) : MapG P k E w b l.length f := by
  obtain ⟨D, ho, h1, h2⟩ := h
  refine ⟨D, ?_, h1, h2⟩
  have hp := perm_keys ho hk h1 hl
  obtain ⟨es, clock, hb, F, hs, rfl⟩ := ho
  refine ⟨es, clock, hb, F, ?_, rfl⟩
  have h3 := hp.length_eq
  rw [size_strKeys] at h3
  rw [h3]
  simp [Maps.size, length_sorted]

/-- Each key is a text that the model reads. -/
theorem MapG.key_le (h : MapG P k E w b n f) (hk : P.underlying k = some .string) {x : Str} (hx : (f x).isSome = true) : x.length ≤ maxLen := by
  obtain ⟨D, ho, h1, h2⟩ := h
  have h3 := strKeys_le ho hk
  rw [← h1] at hx
  obtain ⟨es, rfl, hko⟩ := ho.keysOf
  obtain ⟨p, hp, hpk⟩ := List.any_eq_true.1 hx
  refine h3 x (List.mem_map.2 ⟨p, hp, ?_⟩)
  rw [WideAt.sameKey_eq hpk]
  rfl

/-- Block b holds o. -/
def Holds (w : World) (b : Nat) (o : Obj) : Prop := w.heap[b]? = some o
theorem Holds.alloc {o o' : Obj} (h : Holds w b o) : Holds (w.alloc o') b o := (Below.heap_alloc w o' b (Array.getElem?_eq_some_iff.1 h).1).trans h
theorem Holds.drew {o : Obj} (h : Holds w b o) : Holds w.drew b o := h
theorem Holds.put {o : Obj} (h : Holds w b o) (o' : Obj) : Holds (setBlock w b o') b o' := (MapKept.heap_set h).1
theorem Holds.set_other {o : Obj} {b' : Nat} (h : Holds w b o) (hne : b ≠ b') (o' : Obj) : Holds (setBlock w b' o') b o := by
  have : ¬ b' = b := fun e => hne e.symm
  simp only [Holds, setBlock, Array.getElem?_setIfInBounds]
  rw [if_neg this]
  exact h

theorem MapG.of_holds {es es' : Array MapEntry} {c c' : Nat} {w2 : World} (hb : Holds w b (.map es c)) (h : MapG P k E (setBlock w b (.map es' c')) b n f) (h2 : Holds w2 b (.map es' c')) : MapG P k E w2 b n f := by
  refine h.same ?_
  rw [show w2.heap[b]? = some (.map es' c') from h2]
  exact (Holds.put hb _).symm

/-- 'm[x], .. = a, ..': the entry first, the store behind: whatever lies between them. -/
theorem MapG.entry (h : MapG P k E w b n f) (hk : P.underlying k = some .string) (ht : P.underlying t = some (.map k e)) (hn : n < maxLen) {z : Value} (hz : ∀ u : World, (zeroValue e).run P u = .ok z u) {x : Str} (hx : x.length ≤ maxLen) :
    ∃ (o0 o1 : Obj) (v0 : Value) (st : Nat) (o2 : α → Obj), Holds w b o0 ∧ (v0 = match f x with | some a => E.val a | none => z) ∧
      (∀ wx, Holds wx b o0 → (Instr.mapEntry t (.map (some b)) (.string (bs x))).run P wx = .ok (.tuple #[v0, .int .i64 st]) (setBlock wx b o1)) ∧
      (∀ wx a, Holds wx b o1 → (Instr.entryStore t (.map (some b)) (.int .i64 st) (E.val a)).run P wx = .ok () (setBlock wx b (o2 a))) ∧
      ∀ wx a, Holds wx b (o2 a) → MapG P k E wx b (n + 1) (upd f x (some a)) := by
  have hgo : ∀ a, ∃ w', (Instr.mapUpdate t (.map (some b)) (.string (bs x)) (E.val a)).run P w = .ok () w' ∧ MapG P k E w' b (n + 1) (upd f x (some a)) := fun a => by
    obtain ⟨w', h1, h2, _⟩ := h.store hk ht hn hx a
    exact ⟨w', h1, h2⟩
  have hf0 := h.look (z := z) hk ht (hz w) hx false
  obtain ⟨D, ⟨es, clock, hb, F, hs, rfl⟩, h1, h2⟩ := h
  have K := WideMaps.string_law hk
  have hkey := keyOf_bs hk hx
  obtain ⟨s1, s2, _⟩ := F.stamped
  have hb' : Holds w b (.map es clock) := hb
  rcases K.find w hkey es.toList F.keys with ⟨g1, g2⟩ | ⟨j, e0, g1, g2, g3⟩
  · refine ⟨.map es clock, .map (es.push ⟨.string (bs x), z, clock⟩) (clock + 1), z, clock, fun a => .map (es.push ⟨.string (bs x), E.val a, clock⟩) (clock + 1), hb, ?_, fun wx hwx => ?_, fun wx a hwx => ?_, fun wx a hwx => ?_⟩
    · have : (Instr.lookup t (.map (some b)) (.string (bs x)) false).run P w = .ok z w := by
        simp [Instr.lookup, run_underlying ht, MapKept.run_getObj_map hb, K.check w _ hkey, g1, hz, Result.andThen]
      rw [hf0] at this
      simpa using this.symm
    · have hb2 : wx.heap[b]? = some (.map es clock) := hwx
      have g1' : (Instr.findKey k (.string (bs x)) es.toList).run P wx = .ok none wx := by
        rcases K.find wx hkey es.toList F.keys with ⟨g1', _⟩ | ⟨j, e0, _, g2', g3'⟩
        · exact g1'
        · exact absurd g3' (g2 e0 (List.mem_of_getElem? g2'))
      simp [Instr.mapEntry, run_underlying ht, MapKept.run_getObj_map hb2, K.check wx false hkey, g1', hz, MapKept.run_setObj_map _ hb2, Result.andThen, setBlock, goInt]
    · have hb2 : wx.heap[b]? = some (.map (es.push ⟨.string (bs x), z, clock⟩) (clock + 1)) := hwx
      have hidx : (es.push ⟨.string (bs x), z, clock⟩).findIdx? (fun e => ((e.born : Nat) : Int) == ((clock : Nat) : Int)) = some es.size := by
        rw [WideElems.findIdx_arr]
        have := WideElems.findIdx_born (l := (es.push ⟨.string (bs x), z, clock⟩).toList) (j := es.size) (e0 := ⟨.string (bs x), z, clock⟩) (by
          simp only [Array.toList_push, List.map_append, List.map_cons, List.map_nil]
          refine List.nodup_append.2 ⟨s2, by simp, fun a ha c hc e1 => ?_⟩
          simp only [List.mem_singleton] at hc
          obtain ⟨y, hy, rfl⟩ := List.mem_map.1 ha
          have := s1 y hy
          omega) (by simp)
        exact this
      have hmod : (es.push ⟨.string (bs x), z, clock⟩).modify es.size (fun e => { e with val := E.val a }) = es.push ⟨.string (bs x), E.val a, clock⟩ := by
        apply Array.ext'
        rw [Array.toList_modify, Array.toList_push, Array.toList_push, ← Array.length_toList, WideElems.modify_last]
      simp [Instr.entryStore, MapKept.run_getObj_map hb2, asInt, asIntOf, hidx, hmod, MapKept.run_setObj_map _ hb2, Result.andThen, setBlock]
    · obtain ⟨w', hr, hm⟩ := hgo a
      have hr2 : (Instr.mapUpdate t (.map (some b)) (.string (bs x)) (E.val a)).run P w = .ok () (setBlock w b (.map (es.push ⟨.string (bs x), E.val a, clock⟩) (clock + 1))) := by
        simp [Instr.mapUpdate, run_underlying ht, MapKept.run_getObj_map hb, K.check w false hkey, g1, MapKept.run_setObj_map _ hb, Result.andThen, setBlock]
      rw [hr2] at hr
      obtain rfl : setBlock w b (.map (es.push ⟨.string (bs x), E.val a, clock⟩) (clock + 1)) = w' := by simpa using hr
      exact MapG.of_holds hb' hm hwx
  · have hj : es[j]? = some e0 := by simpa using g2
    have hsame : es.modify j (fun e => { e with key := .string (bs x) }) = es := by
      apply Array.ext'
      rw [Array.toList_modify, ChangeMaps.modify_eq_set _ _ _ _ g2]
      have : ({ e0 with key := .string (bs x) } : MapEntry) = e0 := by rw [← g3]
      rw [this]
      exact WideElems.set_self _ _ _ g2
    refine ⟨.map es clock, .map es clock, e0.val, e0.born, fun a => .map (es.modify j (fun e' => { e' with key := .string (bs x), val := E.val a })) clock, hb, ?_, fun wx hwx => ?_, fun wx a hwx => ?_, fun wx a hwx => ?_⟩
    · have : (Instr.lookup t (.map (some b)) (.string (bs x)) false).run P w = .ok e0.val w := by
        simp [Instr.lookup, run_underlying ht, MapKept.run_getObj_map hb, K.check w _ hkey, g1, Result.andThen]
      rw [hf0] at this
      simpa using this.symm
    · have hb2 : wx.heap[b]? = some (.map es clock) := hwx
      have g1' : (Instr.findKey k (.string (bs x)) es.toList).run P wx = .ok (some (j, e0.val)) wx := by
        rcases K.find wx hkey es.toList F.keys with ⟨_, g2'⟩ | ⟨j', e0', g1', g2', g3'⟩
        · exact absurd g3 (g2' e0 (List.mem_of_getElem? g2))
        · have h4 : e0' = e0 := Go.entry_eq_of_key ((MapKept.stamped_iff es clock).1 F.stamped).2.2 (List.mem_of_getElem? g2') (List.mem_of_getElem? g2) (g3'.trans g3.symm)
          subst h4
          have h5 : j' = j := by
            have hd := s2
            have l1 := List.getElem?_eq_some_iff.1 g2'
            have l2 := List.getElem?_eq_some_iff.1 g2
            obtain ⟨q1, q2⟩ := l1
            obtain ⟨q3, q4⟩ := l2
            refine (List.getElem_inj (h₀ := by simpa using q1) (h₁ := by simpa using q3) s2).1 ?_
            simp only [List.getElem_map]
            rw [q2, q4]
          rw [h5] at g1'
          exact g1'
      simp [Instr.mapEntry, run_underlying ht, MapKept.run_getObj_map hb2, K.check wx false hkey, g1', hj, g3, K.stays wx hkey, hsame, MapKept.run_setObj_map _ hb2, Result.andThen, setBlock, goInt]
    · have hb2 : wx.heap[b]? = some (.map es clock) := hwx
      have hidx : es.findIdx? (fun e => ((e.born : Nat) : Int) == ((e0.born : Nat) : Int)) = some j := by
        rw [WideElems.findIdx_arr]
        exact WideElems.findIdx_born s2 g2
      have hmod : es.modify j (fun e => { e with val := E.val a }) = es.modify j (fun e' => { e' with key := .string (bs x), val := E.val a }) := by
        apply Array.ext'
        rw [Array.toList_modify, Array.toList_modify, ChangeMaps.modify_eq_set _ _ _ _ g2, ChangeMaps.modify_eq_set _ _ _ _ g2, ← g3]
      simp [Instr.entryStore, MapKept.run_getObj_map hb2, asInt, asIntOf, hidx, hmod, MapKept.run_setObj_map _ hb2, Result.andThen, setBlock]
    · obtain ⟨w', hr, hm⟩ := hgo a
      have hr2 : (Instr.mapUpdate t (.map (some b)) (.string (bs x)) (E.val a)).run P w = .ok () (setBlock w b (.map (es.modify j (fun e' => { e' with key := .string (bs x), val := E.val a })) clock)) := by
        simp [Instr.mapUpdate, run_underlying ht, MapKept.run_getObj_map hb, K.check w false hkey, g1, hj, g3, K.stays w hkey, MapKept.run_setObj_map _ hb, Result.andThen, setBlock]
      rw [hr2] at hr
      obtain rfl : setBlock w b (.map (es.modify j (fun e' => { e' with key := .string (bs x), val := E.val a })) clock) = w' := by simpa using hr
      exact MapG.of_holds hb' hm hwx
end

end Go.Proofs.Ytejlekfnjhnklaa
