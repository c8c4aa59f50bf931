/- Statements' trees, by definition: what a list of tokens is told as. Plain.
   Trees in memory; what a reader's doing leaves as it is.
   parse: its small functions.
   parse: the reader's small methods.
   parse: whether a text ends with an operand.
   parse: whether a text ends with an operand, by the reader. -/
import Derived.Test.YthlingdlehdlhaaGreatDoorTok
import Derived.Test.YthlingdlehdlhaaGreatDoorTokSame
namespace Go.Proofs.YthlingdlehdlhaaGreatDoor.Par
open Go.RowKit Go.Shelf
set_option linter.unusedVariables false
set_option linter.unusedSimpArgs false

/-- Trees, and lists of them: expressions (with what stands behind), lines. -/
inductive Tr where
  | nil
  | ex (kind : Int) (name : List UInt8) (val : Arr) (fk ff fg : Int) (fname : List UInt8) (body kids next : Tr)
  | ln (kind : Int) (name : List UInt8) (kids next : Tr)
deriving DecidableEq

/-- A function. -/
structure Fn where
  kind : Int
  f : Int
  g : Int
  name : List UInt8
  body : Tr
deriving DecidableEq
def noFn : Fn := ⟨0, 0, 0, [], .nil⟩

/-- An expression: kind, name, value, function, kids. -/
structure Ex where
  kind : Int
  name : List UInt8
  val : Arr
  fn : Fn
  kids : Tr
deriving DecidableEq
def Ex.cons (x : Ex) (r : Tr) : Tr := .ex x.kind x.name x.val x.fn.kind x.fn.f x.fn.g x.fn.name x.fn.body x.kids r
structure Ln where
  kind : Int
  name : List UInt8
  kids : Tr
deriving DecidableEq
def Ln.cons (x : Ln) (r : Tr) : Tr := .ln x.kind x.name x.kids r
def chainE : List Ex → Tr
  | [] => .nil
  | x :: r => x.cons (chainE r)
def chainL : List Ln → Tr
  | [] => .nil
  | x :: r => x.cons (chainL r)

def isG (t : Tok) (s : List UInt8) : Bool := decide (t.kind = 3) && decide (t.txt = s)
def gLP : List UInt8 := [40]
def gRP : List UInt8 := [41]
def gLB : List UInt8 := [91]
def gRB : List UInt8 := [93]
def gLC : List UInt8 := [123]
def gRC : List UInt8 := [125]
def gSemi : List UInt8 := [59]
def gColon : List UInt8 := [58]
def gDot : List UInt8 := [46]
def gSlash : List UInt8 := [47]
def gBack : List UInt8 := [92]
def gDia : List UInt8 := [226, 139, 132]
def gGets : List UInt8 := [226, 134, 144]
def gAlpha : List UInt8 := [226, 141, 186]
def gOmega : List UInt8 := [226, 141, 181]
def gDel : List UInt8 := [226, 136, 135]
def gJot : List UInt8 := [226, 136, 152]

def isClose (t : Tok) : Bool := isG t gRP || isG t gRB || isG t gRC
def isOpen (t : Tok) : Bool := isG t gLP || isG t gLB || isG t gLC
/-- What a token does to the depth, from the end on. -/
def wt (t : Tok) : Int := if isClose t = true then 1 else if isOpen t = true then -1 else 0
def S : List Tok → Int
  | [] => 0
  | t :: r => wt t + S r
theorem S_append (a b : List Tok) : S (a ++ b) = S a + S b := by
  induction a with
  | nil => simp [S]
  | cons t r ih => rw [List.cons_append, S, ih, S]; omega
def Dyck (l : List Tok) : Prop := S l = 0 ∧ ∀ k, 0 ≤ S (l.drop k)

/-- From the end on: how many tokens stand ahead of the first one that is free. -/
def openedR (d : Int) : List Tok → Nat
  | [] => 0
  | t :: r => if d + wt t = 0 then r.length else openedR (d + wt t) r
def openedF (l : List Tok) : Nat := openedR 0 l.reverse

/-- Parts: from the end on (reversed), with the depth, the part that is read (in order), and those behind it. -/
def partsR (s : List UInt8) (d : Int) (cur : List Tok) (acc : List (List Tok)) : List Tok → List (List Tok)
  | [] => cur :: acc
  | t :: r => if d + wt t = 0 ∧ isG t s = true then partsR s (d + wt t) [] (cur :: acc) r else partsR s (d + wt t) (t :: cur) acc r
def partsF (l : List Tok) (s : List UInt8) : List (List Tok) := partsR s 0 [] [] l.reverse

def glyph12 : List (List UInt8) := [[43], [45], [195, 151], [195, 183], [124], [226, 140, 138], [226, 140, 136], [42], [61], [226, 137, 160], [60], [226, 137, 164], [226, 137, 165], [62], [226, 136, 167], [226, 136, 168], [126]]
def mixedG : List (List UInt8) := [[226, 141, 180], [44], [226, 140, 189], [226, 141, 137], [226, 141, 179], [226, 137, 162], [226, 141, 139], [226, 141, 146], [226, 134, 145], [226, 134, 147], [226, 136, 138], [47]]
def namedF (s : List UInt8) : Int := if s ∈ glyph12 then (glyph12.idxOf s : Int) + 1 else 0
def fnF (s : List UInt8) : Int := if s ∈ mixedG then (mixedG.idxOf s : Int) + 20 else namedF s
def bin12 (f : Int) : Bool := decide (1 ≤ f) && decide (f ≤ 16)
def un12 (f : Int) : Bool := decide (f = 1) || decide (f = 2) || decide (f = 3) || decide (f = 5) || decide (f = 17)
def valF (f : Int) : Bool × Bool :=
  if 20 ≤ f ∧ f ≤ 31 then (decide (f ≤ 27), decide (f ≤ 24) || decide (28 ≤ f)) else (un12 f, bin12 f)
def binT (t : Tok) : Int := if t.kind = 3 ∧ bin12 (namedF t.txt) = true then namedF t.txt else 0
def takesF (f : Fn) : Bool × Bool :=
  if f.kind = 1 then valF f.f else if f.kind = 2 ∨ f.kind = 3 then (true, false) else if f.kind = 4 ∨ f.kind = 5 then (false, true) else (true, true)

section
variable (F : List (List UInt8))
def isFun (t : Tok) : Bool := decide (t.kind = 2) && decide (t.txt ∈ F)
def endsT (t : Tok) : Bool := decide (t.kind = 1) || (decide (t.kind = 2) && !isFun F t) || isG t gRP || isG t gRB || isG t gAlpha || isG t gOmega
def endsF (l : List Tok) : Bool := match l.getLast? with | none => false | some t => endsT F t

def setF (l : List Tok) : Option (List UInt8 × List Tok) :=
  match l with
  | t :: u :: r => if t.kind = 2 ∧ t.txt ≠ [] ∧ isG u gGets = true then some (t.txt, r) else none
  | _ => none

mutual
def operandF : Nat → Bool → List Tok → Option (Ex × List Tok)
  | 0, _, _ => none
  | n + 1, ins, l =>
    match l.getLast? with
    | none => none
    | some t =>
      if t.kind = 1 then some (⟨1, [], t.val, noFn, .nil⟩, l.dropLast)
      else if t.kind = 2 then (if isFun F t = true then none else some (⟨2, t.txt, noArr, noFn, .nil⟩, l.dropLast))
      else if isG t gRP = true then (match exprF n ins (l.dropLast.drop (openedF l + 1)) with
        | none => none
        | some x => some (x, l.take (openedF l)))
      else if isG t gRB = true then (match operandF n ins (l.take (openedF l)) with
        | none => none
        | some (x, r) => match axesF n ins (partsF (l.dropLast.drop (openedF l + 1)) gSemi) with
          | none => none
          | some k => some (⟨7, [], noArr, noFn, x.cons k⟩, r))
      else if ins = true ∧ isG t gAlpha = true then some (⟨3, [], noArr, noFn, .nil⟩, l.dropLast)
      else if ins = true ∧ isG t gOmega = true then some (⟨4, [], noArr, noFn, .nil⟩, l.dropLast)
      else none
def axesF : Nat → Bool → List (List Tok) → Option Tr
  | 0, _, _ => none
  | _ + 1, _, [] => some .nil
  | n + 1, ins, a :: r =>
    match (if a = [] then some ⟨8, [], noArr, noFn, .nil⟩ else exprF n ins a) with
    | none => none
    | some x => match axesF n ins r with
      | none => none
      | some k => some (x.cons k)
def functionF : Nat → Bool → List Tok → Option (Fn × List Tok)
  | 0, _, _ => none
  | n + 1, ins, l =>
    match l.getLast? with
    | none => none
    | some t =>
      let p := l.dropLast
      if isFun F t = true then some (⟨6, 0, 0, t.txt, .nil⟩, p)
      else if isG t gDel = true ∧ ins = true then some (⟨8, 0, 0, [], .nil⟩, p)
      else if isG t gRC = true then (match linesF n (p.drop (openedF l + 1)) with
        | none => none
        | some b => some (⟨7, 0, 0, [], b⟩, l.take (openedF l)))
      else match p.getLast? with
        | none => if t.kind = 3 ∧ 0 < fnF t.txt then some (⟨1, fnF t.txt, 0, [], .nil⟩, p) else none
        | some u =>
          let q := p.dropLast
          if isG t gSlash = true ∧ 0 < binT u then some (⟨2, binT u, 0, [], .nil⟩, q)
          else if isG t gBack = true ∧ 0 < binT u then some (⟨3, binT u, 0, [], .nil⟩, q)
          else match q.getLast? with
            | none => if t.kind = 3 ∧ 0 < fnF t.txt then some (⟨1, fnF t.txt, 0, [], .nil⟩, p) else none
            | some v =>
              if isG u gDot = true ∧ 0 < binT t ∧ isG v gJot = true then some (⟨4, binT t, 0, [], .nil⟩, q.dropLast)
              else if isG u gDot = true ∧ 0 < binT t ∧ 0 < binT v then some (⟨5, binT v, binT t, [], .nil⟩, q.dropLast)
              else if t.kind = 3 ∧ 0 < fnF t.txt then some (⟨1, fnF t.txt, 0, [], .nil⟩, p) else none
def exprF : Nat → Bool → List Tok → Option Ex
  | 0, _, _ => none
  | n + 1, ins, l =>
    match operandF n ins l with
    | none => none
    | some (x, r) => loopF n ins x r
def loopF : Nat → Bool → Ex → List Tok → Option Ex
  | 0, _, _, _ => none
  | n + 1, ins, x, r =>
    if r = [] then some x
    else match functionF n ins r with
      | none => none
      | some (f, r1) =>
        if endsF F r1 = true then (match operandF n ins r1 with
          | none => none
          | some (y, r2) => if (takesF f).2 = true then loopF n ins ⟨6, [], noArr, f, y.cons (x.cons .nil)⟩ r2 else none)
        else if (takesF f).1 = true then loopF n ins ⟨5, [], noArr, f, x.cons .nil⟩ r1
        else none
def linesF : Nat → List Tok → Option Tr
  | 0, _ => none
  | n + 1, l => match manyF n ((partsF l gDia).filter (· ≠ [])) with
    | none => none
    | some .nil => none
    | some b => some b
def manyF : Nat → List (List Tok) → Option Tr
  | 0, _ => none
  | _ + 1, [] => some .nil
  | n + 1, a :: r =>
    match lineF n a with
    | none => none
    | some x => match manyF n r with
      | none => none
      | some k => some (x.cons k)
def lineF : Nat → List Tok → Option Ln
  | 0, _ => none
  | n + 1, l =>
    match partsF l gColon with
    | [a, b] => (match exprF n true a with
      | none => none
      | some x => match exprF n true b with
        | none => none
        | some y => some ⟨3, [], x.cons (y.cons .nil)⟩)
    | [_] => (match setF l with
      | some (s, r) => if s ∈ F then none else (match exprF n true r with
        | none => none
        | some x => some ⟨2, s, x.cons .nil⟩)
      | none => match exprF n true l with
        | none => none
        | some x => some ⟨1, [], x.cons .nil⟩)
    | _ => none
end
end
structure Stm where
  kind : Int
  name : List UInt8
  expr : Ex
  body : Tr
deriving DecidableEq
def noEx : Ex := ⟨0, [], noArr, noFn, .nil⟩
def noStm : Stm := ⟨0, [], noEx, .nil⟩
/-- Fuel that is enough. -/
def fuel (l : List Tok) : Nat := 8 * l.length + 16
def stmtF (F : List (List UInt8)) (l : List Tok) : Option Stm :=
  match setF l with
  | none => (exprF F (fuel l) false l).map fun x => ⟨1, [], x, .nil⟩
  | some (s, r) =>
    match r.getLast? with
    | none => none
    | some t =>
      if 1 < r.length ∧ isG t gRC = true ∧ openedF r = 0 then (linesF (F ++ [s]) (fuel l) (r.dropLast.drop 1)).map fun b => ⟨3, s, noEx, b⟩
      else (exprF F (fuel l) false r).map fun x => ⟨2, s, x, .nil⟩

theorem wt_cases (t : Tok) : wt t = -1 ∨ wt t = 0 ∨ wt t = 1 := by
  unfold wt; split <;> try split
  all_goals simp
theorem S_split (l : List Tok) (k : Nat) : S l = S (l.take k) + S (l.drop k) := by
  rw [← S_append, List.take_append_drop]
theorem S_drop_get (l : List Tok) (k : Nat) (t : Tok) (h : l[k]? = some t) : S (l.drop k) = wt t + S (l.drop (k + 1)) := by
  obtain ⟨hk, rfl⟩ := List.getElem?_eq_some_iff.1 h
  rw [List.drop_eq_getElem_cons hk, S]
theorem Dyck.nil : Dyck [] := ⟨rfl, fun k => by simp [S]⟩
theorem Dyck.take {l : List Tok} (h : Dyck l) {k : Nat} (hk : S (l.drop k) = 0) : Dyck (l.take k) := by
  have h0 := S_split l k
  refine ⟨by have := h.1; omega, fun j => ?_⟩
  rcases Nat.lt_or_ge k j with hj | hj
  · rw [List.drop_eq_nil_of_le (by rw [List.length_take]; omega)]; simp [S]
  · have e : (l.take k).drop j = (l.drop j).take (k - j) := by rw [List.drop_take]
    have h1 := S_split (l.drop j) (k - j)
    rw [List.drop_drop, show j + (k - j) = k by omega, hk] at h1
    rw [e]; have := h.2 j; omega
/-- Between a bracket that opens and the one that matches it. -/
theorem Dyck.inside {l : List Tok} (h : Dyck l) {a b : Nat} (hab : a < b) (hb : b < l.length) (h1 : S (l.drop (a + 1)) = S (l.drop (b + 1)) + 1) (h2 : S (l.drop b) = S (l.drop (b + 1)) + 1) (h3 : ∀ j, a < j → j ≤ b → S (l.drop (b + 1)) + 1 ≤ S (l.drop j)) :
    Dyck ((l.take b).drop (a + 1)) := by
  have e : ∀ j, (l.take b).drop j = (l.drop j).take (b - j) := fun j => by rw [List.drop_take]
  have key : ∀ j, a < j → j ≤ b → S ((l.take b).drop j) = S (l.drop j) - S (l.drop (b + 1)) - 1 := fun j h4 h5 => by
    have h6 := S_split (l.drop j) (b - j)
    rw [List.drop_drop, show j + (b - j) = b by omega] at h6
    rw [e]; omega
  refine ⟨by rw [key _ (by omega) (by omega)]; omega, fun j => ?_⟩
  rw [List.drop_drop]
  rcases Nat.lt_or_ge b (a + 1 + j) with hj | hj
  · rw [List.drop_eq_nil_of_le (by rw [List.length_take]; omega)]; simp [S]
  · rw [key _ (by omega) hj]; have := h3 (a + 1 + j) (by omega) hj; omega

theorem openedR_spec (l : List Tok) : ∀ (r : List Tok) (q : List Tok), l = r.reverse ++ q → (∃ j, j < r.length ∧ S (l.drop j) = 0) →
    openedR (S q) r < r.length ∧ S (l.drop (openedR (S q) r)) = 0 ∧ ∀ j, openedR (S q) r < j → j < r.length → S (l.drop j) ≠ 0 := by
  intro r
  induction r with
  | nil => rintro q rfl ⟨j, hj, -⟩; simp at hj
  | cons t r ih =>
    intro q hl hex
    have e : l = r.reverse ++ (t :: q) := by rw [hl]; simp
    have hd : l.drop r.length = t :: q := by rw [e, List.drop_append_of_le_length (by simp), List.drop_eq_nil_of_le (by simp)]; rfl
    have hs : S (l.drop r.length) = S q + wt t := by rw [hd, S]; omega
    rw [openedR]
    by_cases h0 : S q + wt t = 0
    · rw [if_pos h0]
      refine ⟨by simp, by omega, fun j h1 h2 => ?_⟩
      rw [List.length_cons] at h2; omega
    · rw [if_neg h0]
      have hsq : S q + wt t = S (t :: q) := by rw [S]; omega
      rw [hsq]
      obtain ⟨j, hj, hj0⟩ := hex
      have := ih (t :: q) e ⟨j, by
        rw [List.length_cons] at hj
        rcases Nat.lt_or_ge j r.length with h | h
        · exact h
        · have : j = r.length := by omega
          subst this; rw [hs] at hj0; omega, hj0⟩
      refine ⟨by rw [List.length_cons]; omega, this.2.1, fun j h1 h2 => ?_⟩
      rw [List.length_cons] at h2
      rcases Nat.lt_or_ge j r.length with h | h
      · exact this.2.2 j h1 h
      · have : j = r.length := by omega
        subst this; rw [hs]; exact h0
theorem opened_spec {l : List Tok} (h : Dyck l) (hne : l ≠ []) : openedF l < l.length ∧ S (l.drop (openedF l)) = 0 ∧ ∀ j, openedF l < j → j < l.length → 0 < S (l.drop j) := by
  have hpos : 0 < l.length := List.length_pos_iff.2 hne
  have := openedR_spec l l.reverse [] (by simp) ⟨0, by simpa using hpos, by rw [List.drop_zero]; exact h.1⟩
  simp only [S, List.length_reverse] at this
  refine ⟨this.1, this.2.1, fun j h1 h2 => ?_⟩
  have h3 := this.2.2 j h1 h2
  have h4 := h.2 j
  omega
theorem last_get {l : List Tok} {t : Tok} (h : l.getLast? = some t) : l[l.length - 1]? = some t ∧ 0 < l.length := by
  rw [List.getLast?_eq_getElem?] at h
  refine ⟨h, ?_⟩
  have := (List.getElem?_eq_some_iff.1 h).1; omega
theorem drop_last {l : List Tok} (_ : 0 < l.length) : l.dropLast = l.take (l.length - 1) := List.dropLast_eq_take
/-- Brackets at the end: where they open, what is inside, what is ahead. -/
theorem Dyck.closed {l : List Tok} {t : Tok} (h : Dyck l) (ht : l.getLast? = some t) (hw : wt t = 1) :
    openedF l + 1 < l.length ∧ Dyck (l.dropLast.drop (openedF l + 1)) ∧ Dyck (l.take (openedF l)) := by
  obtain ⟨h1, h2⟩ := last_get ht
  obtain ⟨a1, a2, a3⟩ := opened_spec h (List.ne_nil_of_length_pos h2)
  have hb := S_drop_get l _ t h1
  have hz : S (l.drop (l.length - 1 + 1)) = 0 := by rw [List.drop_eq_nil_of_le (by omega)]; rfl
  rw [hz] at hb
  have hlt : openedF l < l.length - 1 := by
    rcases Nat.lt_or_ge (openedF l) (l.length - 1) with h | h
    · exact h
    · have e : openedF l = l.length - 1 := by omega
      rw [e] at a2; omega
  obtain ⟨u, hu⟩ : ∃ u, l[openedF l]? = some u := ⟨_, List.getElem?_eq_getElem a1⟩
  have hc := S_drop_get l _ u hu
  have h5 := a3 (openedF l + 1) (by omega) (by omega)
  have h6 := wt_cases u
  refine ⟨by omega, ?_, h.take a2⟩
  rw [drop_last h2]
  refine h.inside hlt (by omega) (by rw [hz]; omega) (by rw [hz]; omega) fun j h7 h8 => ?_
  rw [hz]; have := a3 j h7 (by omega); omega
theorem Dyck.init {l : List Tok} {t : Tok} (h : Dyck l) (ht : l.getLast? = some t) (hw : wt t = 0) : Dyck l.dropLast := by
  obtain ⟨h1, h2⟩ := last_get ht
  have hb := S_drop_get l _ t h1
  rw [show l.length - 1 + 1 = l.length by omega, List.drop_length, hw] at hb
  rw [drop_last h2]
  exact h.take (by rw [hb]; rfl)
theorem Dyck.tail {t : Tok} {l : List Tok} (h : Dyck (t :: l)) (hw : wt t = 0) : Dyck l := by
  have := h.1
  rw [S] at this
  refine ⟨by omega, fun k => ?_⟩
  have := h.2 (k + 1); simpa using this

/-- Parts of a list whose brackets match: theirs match. -/
theorem partsR_dyck {s : List UInt8} (hs : ∀ t, isG t s = true → wt t = 0) : ∀ (r cur : List Tok) (acc : List (List Tok)) (d : Int), S cur = d → (∀ k, 0 ≤ S (cur.drop k)) → (∀ k, 0 ≤ d + S (r.reverse.drop k)) → d + S r.reverse = 0 → (∀ a ∈ acc, Dyck a) →
    ∀ a ∈ partsR s d cur acc r, Dyck a := by
  intro r
  induction r with
  | nil =>
    intro cur acc d h1 h2 h3 h4 h5 a ha
    rw [partsR] at ha
    rcases List.mem_cons.1 ha with rfl | ha
    · refine ⟨?_, h2⟩
      rw [List.reverse_nil, S] at h4; omega
    · exact h5 a ha
  | cons t r ih =>
    intro cur acc d h1 h2 h3 h4 h5 a ha
    rw [List.reverse_cons, S_append, S, S] at h4
    have h3' : ∀ k, 0 ≤ d + wt t + S (r.reverse.drop k) := fun k => by
      have := h3 (min k r.length)
      rw [List.reverse_cons, List.drop_append_of_le_length (by rw [List.length_reverse]; omega), S_append, S, S] at this
      rcases Nat.lt_or_ge r.length k with h | h
      · rw [Nat.min_eq_right (by omega), List.drop_eq_nil_of_le (by simp)] at this
        rw [List.drop_eq_nil_of_le (by rw [List.length_reverse]; omega)]; omega
      · rw [Nat.min_eq_left h] at this; omega
    rw [partsR] at ha
    split at ha
    · rename_i hc
      have hw := hs t hc.2
      refine ih [] (cur :: acc) (d + wt t) (by rw [S]; omega) (fun k => by simp [S]) h3' (by omega) (fun b hb => ?_) a ha
      rcases List.mem_cons.1 hb with rfl | hb
      · exact ⟨by omega, h2⟩
      · exact h5 b hb
    · refine ih (t :: cur) acc (d + wt t) (by rw [S]; omega) (fun k => ?_) h3' (by omega) h5 a ha
      cases k with
      | zero =>
        have := h3' r.length
        rw [List.drop_eq_nil_of_le (by simp), S] at this
        rw [List.drop_zero, S]; omega
      | succ k => simpa using h2 k
theorem parts_dyck {s : List UInt8} (hs : ∀ t, isG t s = true → wt t = 0) {l : List Tok} (h : Dyck l) : ∀ a ∈ partsF l s, Dyck a :=
  partsR_dyck hs l.reverse [] [] 0 rfl (fun k => by simp [S]) (fun k => by simpa using h.2 k) (by simpa using h.1) (by simp)
theorem partsR_len (s : List UInt8) : ∀ (r cur : List Tok) (acc : List (List Tok)) (d : Int),
    ((partsR s d cur acc r).map fun a => a.length + 1).sum = r.length + cur.length + 1 + (acc.map fun a => a.length + 1).sum := by
  intro r
  induction r with
  | nil => intro cur acc d; rw [partsR]; simp
  | cons t r ih =>
    intro cur acc d
    rw [partsR]
    split
    · rw [ih]; simp; omega
    · rw [ih]; simp; omega
theorem parts_len (s : List UInt8) (l : List Tok) : ((partsF l s).map fun a => a.length + 1).sum = l.length + 1 := by
  unfold partsF; rw [partsR_len]; simp
theorem partsR_ne (s : List UInt8) : ∀ (r cur : List Tok) (acc : List (List Tok)) (d : Int), partsR s d cur acc r ≠ [] := by
  intro r
  induction r with
  | nil => intro cur acc d; rw [partsR]; simp
  | cons t r ih => intro cur acc d; rw [partsR]; split <;> exact ih _ _ _
theorem wt_semi (t : Tok) (h : isG t gSemi = true) : wt t = 0 := by
  unfold isG at h; simp only [Bool.and_eq_true, decide_eq_true_eq] at h
  unfold wt isClose isOpen isG; rw [h.1, h.2]; decide
theorem wt_colon (t : Tok) (h : isG t gColon = true) : wt t = 0 := by
  unfold isG at h; simp only [Bool.and_eq_true, decide_eq_true_eq] at h
  unfold wt isClose isOpen isG; rw [h.1, h.2]; decide
theorem wt_dia (t : Tok) (h : isG t gDia = true) : wt t = 0 := by
  unfold isG at h; simp only [Bool.and_eq_true, decide_eq_true_eq] at h
  unfold wt isClose isOpen isG; rw [h.1, h.2]; decide
theorem wt_kind (t : Tok) (h : t.kind ≠ 3) : wt t = 0 := by
  unfold wt isClose isOpen isG; simp [h]
theorem isG_eq {t : Tok} {s : List UInt8} (h : isG t s = true) : t.kind = 3 ∧ t.txt = s := by
  unfold isG at h; simpa using h
theorem wt_isG {t : Tok} {s : List UInt8} (h : isG t s = true) : wt t = wt ⟨3, s, noArr⟩ := by
  obtain ⟨h1, h2⟩ := isG_eq h
  unfold wt isClose isOpen isG; rw [h1, h2]
theorem wt_text {t : Tok} (h : t.txt ∉ [gLP, gRP, gLB, gRB, gLC, gRC]) : wt t = 0 := by
  simp only [List.mem_cons, List.not_mem_nil, or_false, not_or] at h
  unfold wt isClose isOpen isG
  simp [h]
theorem fn_pos {s : List UInt8} (h : 0 < fnF s) : s ∈ mixedG ∨ s ∈ glyph12 := by
  unfold fnF namedF at h
  split at h
  · exact .inl ‹_›
  · split at h
    · exact .inr ‹_›
    · omega
theorem bin_pos {t : Tok} (h : 0 < binT t) : t.kind = 3 ∧ t.txt ∈ glyph12 := by
  unfold binT at h
  split at h
  · rename_i hc
    refine ⟨hc.1, ?_⟩
    unfold namedF at h
    split at h
    · assumption
    · omega
  · omega
theorem gl12_wt : ∀ s ∈ glyph12, s ∉ [gLP, gRP, gLB, gRB, gLC, gRC] := by decide
theorem mix_wt : ∀ s ∈ mixedG, s ∉ [gLP, gRP, gLB, gRB, gLC, gRC] := by decide
theorem fn_wt {t : Tok} (h : 0 < fnF t.txt) : wt t = 0 := by
  rcases fn_pos h with h | h
  · exact wt_text (mix_wt _ h)
  · exact wt_text (gl12_wt _ h)
theorem bin_wt {t : Tok} (h : 0 < binT t) : wt t = 0 := wt_text (gl12_wt _ (bin_pos h).2)

/-- What is left is a beginning of the list. -/
def Pre (l r : List Tok) : Prop := Dyck r ∧ r.length < l.length ∧ r = l.take r.length
theorem Pre.of_take {l : List Tok} {k : Nat} (hk : k < l.length) (h : Dyck (l.take k)) : Pre l (l.take k) := by
  have e : (l.take k).length = k := by rw [List.length_take]; omega
  exact ⟨h, by rw [e]; exact hk, by rw [e]⟩
theorem Pre.trans {l r s : List Tok} (h1 : Pre l r) (h2 : Pre r s) : Pre l s := by
  refine ⟨h2.1, Nat.lt_trans h2.2.1 h1.2.1, ?_⟩
  have := h2.2.2
  rw [h1.2.2, List.take_take, Nat.min_eq_left (Nat.le_of_lt h2.2.1)] at this
  exact this
theorem Pre.init {l : List Tok} {t : Tok} (h : Dyck l) (ht : l.getLast? = some t) (hw : wt t = 0) : Pre l l.dropLast := by
  have h2 := (last_get ht).2
  rw [drop_last h2]
  exact .of_take (by omega) (by rw [← drop_last h2]; exact h.init ht hw)
theorem Pre.closed {l : List Tok} {t : Tok} (h : Dyck l) (ht : l.getLast? = some t) (hw : wt t = 1) : Pre l (l.take (openedF l)) := by
  obtain ⟨h1, -, h2⟩ := h.closed ht hw
  exact .of_take (by omega) h2
theorem wt_rp {t : Tok} (h : isG t gRP = true) : wt t = 1 := by rw [wt_isG h]; decide
theorem wt_rb {t : Tok} (h : isG t gRB = true) : wt t = 1 := by rw [wt_isG h]; decide
theorem wt_rc {t : Tok} (h : isG t gRC = true) : wt t = 1 := by rw [wt_isG h]; decide
theorem wt_alpha {t : Tok} (h : isG t gAlpha = true) : wt t = 0 := by rw [wt_isG h]; decide
theorem wt_omega {t : Tok} (h : isG t gOmega = true) : wt t = 0 := by rw [wt_isG h]; decide
theorem wt_del {t : Tok} (h : isG t gDel = true) : wt t = 0 := by rw [wt_isG h]; decide
theorem wt_slash {t : Tok} (h : isG t gSlash = true) : wt t = 0 := by rw [wt_isG h]; decide
theorem wt_back {t : Tok} (h : isG t gBack = true) : wt t = 0 := by rw [wt_isG h]; decide
theorem wt_dot {t : Tok} (h : isG t gDot = true) : wt t = 0 := by rw [wt_isG h]; decide
theorem wt_jot {t : Tok} (h : isG t gJot = true) : wt t = 0 := by rw [wt_isG h]; decide
theorem wt_gets {t : Tok} (h : isG t gGets = true) : wt t = 0 := by rw [wt_isG h]; decide
section
variable (F : List (List UInt8))
theorem function_pre (n : Nat) (ins : Bool) (l : List Tok) (f : Fn) (r : List Tok) (hd : Dyck l) (h : functionF F n ins l = some (f, r)) : Pre l r := by
  cases n with
  | zero => rw [functionF] at h; cases h
  | succ n =>
    rw [functionF] at h
    split at h
    · cases h
    · rename_i t ht
      simp only at h
      split at h
      · rename_i hf
        injection h with h; injection h with _ h; subst h
        unfold isFun at hf
        simp only [Bool.and_eq_true, decide_eq_true_eq] at hf
        exact .init hd ht (wt_kind t (by omega))
      split at h
      · rename_i hb
        injection h with h; injection h with _ h; subst h
        exact .init hd ht (wt_del hb.1)
      split at h
      · rename_i hb
        split at h
        · cases h
        · injection h with h; injection h with _ h; subst h
          exact .closed hd ht (wt_rc hb)
      split at h
      · split at h
        · rename_i hb
          injection h with h; injection h with _ h; subst h
          exact .init hd ht (fn_wt hb.2)
        · cases h
      · rename_i u hu
        split at h
        · rename_i hb
          injection h with h; injection h with _ h; subst h
          have h1 := Pre.init hd ht (wt_slash hb.1)
          exact h1.trans (.init h1.1 hu (bin_wt hb.2))
        split at h
        · rename_i hb
          injection h with h; injection h with _ h; subst h
          have h1 := Pre.init hd ht (wt_back hb.1)
          exact h1.trans (.init h1.1 hu (bin_wt hb.2))
        split at h
        · split at h
          · rename_i hb
            injection h with h; injection h with _ h; subst h
            exact .init hd ht (fn_wt hb.2)
          · cases h
        · rename_i v hv
          split at h
          · rename_i hb
            injection h with h; injection h with _ h; subst h
            have h1 := Pre.init hd ht (bin_wt hb.2.1)
            have h2 := Pre.init h1.1 hu (wt_dot hb.1)
            exact (h1.trans h2).trans (.init h2.1 hv (wt_jot hb.2.2))
          split at h
          · rename_i hb
            injection h with h; injection h with _ h; subst h
            have h1 := Pre.init hd ht (bin_wt hb.2.1)
            have h2 := Pre.init h1.1 hu (wt_dot hb.1)
            exact (h1.trans h2).trans (.init h2.1 hv (bin_wt hb.2.2))
          split at h
          · rename_i hb
            injection h with h; injection h with _ h; subst h
            exact .init hd ht (fn_wt hb.2)
          · cases h
end
theorem set_dyck {l r : List Tok} {s : List UInt8} (hd : Dyck l) (h : setF l = some (s, r)) : Dyck r ∧ r.length + 2 = l.length ∧ r = l.drop 2 := by
  unfold setF at h
  split at h
  · split at h
    · rename_i t u r' hc
      injection h with h; injection h with _ h; subst h
      exact ⟨(hd.tail (wt_kind t (by omega))).tail (wt_gets hc.2.2), rfl, rfl⟩
    · cases h
  · cases h
end Go.Proofs.YthlingdlehdlhaaGreatDoor.Par

namespace Go.Proofs.YthlingdlehdlhaaGreatDoor.Par
open Go.RowKit Go.Shelf
set_option linter.unusedVariables false
set_option linter.unusedSimpArgs false

def Tr.len : Tr → Nat
  | .nil => 0
  | .ex _ _ _ _ _ _ _ _ _ next => next.len + 1
  | .ln _ _ _ next => next.len + 1
/-- A slice of so many, whose first one lies where 'P' says. -/
def SlT (P : Nat → Nat → Prop) (n : Nat) (v : Value) : Prop :=
  ∃ a c, v = .slice a n c ∧ n ≤ c ∧ c ≤ 9223372036854775807 ∧ (a = none → c = 0) ∧ (0 < n → ∃ b o, a = some ⟨b, o, none⟩ ∧ P b o)
/-- An expression's eleven cells. -/
def ExAt (w : World) (b o : Nat) (k : Int) (nm : List UInt8) (vk : Int) (vs ve : Value) (fk ff fg : Int) (fn : List UInt8) (vb vc : Value) : Prop :=
  w.cell? ⟨b, o, none⟩ = some (.int .i64 k) ∧ w.cell? ⟨b, o + 1, none⟩ = some (.string (bs nm)) ∧ w.cell? ⟨b, o + 2, none⟩ = some (.int .i64 vk) ∧ w.cell? ⟨b, o + 3, none⟩ = some vs ∧ w.cell? ⟨b, o + 4, none⟩ = some ve ∧
  w.cell? ⟨b, o + 5, none⟩ = some (.int .i64 fk) ∧ w.cell? ⟨b, o + 6, none⟩ = some (.int .i64 ff) ∧ w.cell? ⟨b, o + 7, none⟩ = some (.int .i64 fg) ∧ w.cell? ⟨b, o + 8, none⟩ = some (.string (bs fn)) ∧ w.cell? ⟨b, o + 9, none⟩ = some vb ∧ w.cell? ⟨b, o + 10, none⟩ = some vc
def LnAt (w : World) (b o : Nat) (k : Int) (nm : List UInt8) (vc : Value) : Prop :=
  w.cell? ⟨b, o, none⟩ = some (.int .i64 k) ∧ w.cell? ⟨b, o + 1, none⟩ = some (.string (bs nm)) ∧ w.cell? ⟨b, o + 2, none⟩ = some vc
/-- A list of trees lies in a row's cells, from one on. -/
def AtT (w : World) : Tr → Nat → Nat → Prop
  | .nil, _, _ => True
  | .ex k nm val fk ff fg fn body kids next, b, o => (∃ vs ve vb vc, ExAt w b o k nm val.kind vs ve fk ff fg fn vb vc ∧ Ints w vs val.shape ∧ Ints w ve val.elems ∧ Rng val.elems ∧ SlT (AtT w body) body.len vb ∧ SlT (AtT w kids) kids.len vc) ∧ AtT w next b (o + 11)
  | .ln k nm kids next, b, o => (∃ vc, LnAt w b o k nm vc ∧ SlT (AtT w kids) kids.len vc) ∧ AtT w next b (o + 3)
def IsTs (w : World) (v : Value) (t : Tr) : Prop := SlT (AtT w t) t.len v
/-- An expression, as a value. -/
def IsE (w : World) (v : Value) (x : Ex) : Prop :=
  ∃ vs ve vb vc, v = .agg #[.int .i64 x.kind, .string (bs x.name), .int .i64 x.val.kind, vs, ve, .int .i64 x.fn.kind, .int .i64 x.fn.f, .int .i64 x.fn.g, .string (bs x.fn.name), vb, vc] ∧ Ints w vs x.val.shape ∧ Ints w ve x.val.elems ∧ Rng x.val.elems ∧ IsTs w vb x.fn.body ∧ IsTs w vc x.kids
def IsF (w : World) (v : Value) (f : Fn) : Prop :=
  ∃ vb, v = .agg #[.int .i64 f.kind, .int .i64 f.f, .int .i64 f.g, .string (bs f.name), vb] ∧ IsTs w vb f.body
def IsLn (w : World) (v : Value) (x : Ln) : Prop :=
  ∃ vc, v = .agg #[.int .i64 x.kind, .string (bs x.name), vc] ∧ IsTs w vc x.kids

/-- All that is no truth value stays. -/
def Soft (w w' : World) : Prop := ∀ p v, w.cell? p = some v → (∀ b, v ≠ .bool b) → w'.cell? p = some v
theorem Soft.trans {a b c : World} (h : Soft a b) (k : Soft b c) : Soft a c := fun p v hp hv => k p v (h p v hp hv) hv
theorem Soft.of_below {w w' : World} (h : Below w.heap.size w w') : Soft w w' := fun p v hp _ => (h.cell (World.block_lt_of_cell? w p hp)).trans hp
theorem Lies.soft {w w' : World} {a : Option Addr} {xs : List Int} (h : Lies w a (xs.map (.int .i64))) (hs : Soft w w') : Lies w' a (xs.map (.int .i64)) := by
  intro i hi
  obtain ⟨b, o, e, hc⟩ := h i hi
  refine ⟨b, o, e, hs _ _ hc fun q hq => ?_⟩
  rw [List.getElem_map] at hq; cases hq
theorem Ints.soft {w w' : World} {v : Value} {xs : List Int} (h : Ints w v xs) (hs : Soft w w') : Ints w' v xs := by
  obtain ⟨a, cap, e, h1, h2, h3, h4⟩ := h
  exact ⟨a, cap, e, h1, h2, h3, Lies.soft h4 hs⟩
theorem Ints.noBool {w : World} {v : Value} {xs : List Int} (h : Ints w v xs) : ∀ b, v ≠ .bool b := by
  obtain ⟨a, cap, rfl, -⟩ := h; intro b e; cases e
theorem SlT.noBool {P : Nat → Nat → Prop} {n : Nat} {v : Value} (h : SlT P n v) : ∀ b, v ≠ .bool b := by
  obtain ⟨a, cap, rfl, -⟩ := h; intro b e; cases e
theorem SlT.imp {P Q : Nat → Nat → Prop} {n : Nat} {v : Value} (h : SlT P n v) (hi : ∀ b o, P b o → Q b o) : SlT Q n v := by
  obtain ⟨a, c, e, h1, h2, h3, h4⟩ := h
  exact ⟨a, c, e, h1, h2, h3, fun hn => by obtain ⟨b, o, e, hp⟩ := h4 hn; exact ⟨b, o, e, hi _ _ hp⟩⟩
theorem toks_soft {w w' : World} {v : Value} {T : List Tok} (h : IsToks w v T) (hs : Soft w w') : IsToks w' v T := by
  obtain ⟨a, cap, e, h1, h2, h3, h4⟩ := h
  refine ⟨a, cap, e, h1, h2, h3, fun k t hk => ?_⟩
  obtain ⟨b, o, vs, ve, e1, ⟨c0, c1, c2, c3, c4⟩, e3, e4, e5⟩ := h4 k t hk
  exact ⟨b, o, vs, ve, e1, ⟨hs _ _ c0 (by intro b e; cases e), hs _ _ c1 (by intro b e; cases e), hs _ _ c2 (by intro b e; cases e), hs _ _ c3 (Ints.noBool e3), hs _ _ c4 (Ints.noBool e4)⟩, Ints.soft e3 hs, Ints.soft e4 hs, e5⟩
theorem AtT.soft {w w' : World} (hs : Soft w w') : ∀ (t : Tr) (b o : Nat), AtT w t b o → AtT w' t b o := by
  intro t
  induction t with
  | nil => intro b o _; trivial
  | ex k nm val fk ff fg fn body kids next ihb ihk ihn =>
    intro b o h
    obtain ⟨⟨vs, ve, vb, vc, ⟨c0, c1, c2, c3, c4, c5, c6, c7, c8, c9, c10⟩, i1, i2, i3, j1, j2⟩, hn⟩ := h
    exact ⟨⟨vs, ve, vb, vc, ⟨hs _ _ c0 (by intro b e; cases e), hs _ _ c1 (by intro b e; cases e), hs _ _ c2 (by intro b e; cases e), hs _ _ c3 (Ints.noBool i1), hs _ _ c4 (Ints.noBool i2), hs _ _ c5 (by intro b e; cases e), hs _ _ c6 (by intro b e; cases e), hs _ _ c7 (by intro b e; cases e), hs _ _ c8 (by intro b e; cases e), hs _ _ c9 (SlT.noBool j1), hs _ _ c10 (SlT.noBool j2)⟩,
      Ints.soft i1 hs, Ints.soft i2 hs, i3, j1.imp ihb, j2.imp ihk⟩, ihn _ _ hn⟩
  | ln k nm kids next ihk ihn =>
    intro b o h
    obtain ⟨⟨vc, ⟨c0, c1, c2⟩, j⟩, hn⟩ := h
    exact ⟨⟨vc, ⟨hs _ _ c0 (by intro b e; cases e), hs _ _ c1 (by intro b e; cases e), hs _ _ c2 (SlT.noBool j)⟩, j.imp ihk⟩, ihn _ _ hn⟩
theorem IsTs.soft {w w' : World} {v : Value} {t : Tr} (h : IsTs w v t) (hs : Soft w w') : IsTs w' v t := SlT.imp h (AtT.soft hs t)
theorem IsE.soft {w w' : World} {v : Value} {x : Ex} (h : IsE w v x) (hs : Soft w w') : IsE w' v x := by
  obtain ⟨vs, ve, vb, vc, e, i1, i2, i3, j1, j2⟩ := h
  exact ⟨vs, ve, vb, vc, e, Ints.soft i1 hs, Ints.soft i2 hs, i3, IsTs.soft j1 hs, IsTs.soft j2 hs⟩
theorem IsLn.soft {w w' : World} {v : Value} {x : Ln} (h : IsLn w v x) (hs : Soft w w') : IsLn w' v x := by
  obtain ⟨vb, e, j1⟩ := h
  exact ⟨vb, e, IsTs.soft j1 hs⟩
theorem IsTs.nil (w : World) : IsTs w (.slice none 0 0) .nil := ⟨none, 0, rfl, Nat.le_refl _, by omega, fun _ => rfl, fun h => by cases h⟩
theorem IsTs.parts {w : World} {v : Value} {t : Tr} (h : IsTs w v t) : ∃ a c, v = .slice a t.len c ∧ t.len ≤ c ∧ c ≤ 9223372036854775807 := by
  obtain ⟨a, c, e, h1, h2, -⟩ := h; exact ⟨a, c, e, h1, h2⟩
/-- One expression, or two, in a row of their own. -/
theorem IsTs.one {w : World} {b : Nat} {T : TypeId} {x : Ex} {vs ve vb vc : Value}
    (h : w.heap[b]? = some (.cells #[.int .i64 x.kind, .string (bs x.name), .int .i64 x.val.kind, vs, ve, .int .i64 x.fn.kind, .int .i64 x.fn.f, .int .i64 x.fn.g, .string (bs x.fn.name), vb, vc] T))
    (i1 : Ints w vs x.val.shape) (i2 : Ints w ve x.val.elems) (i3 : Rng x.val.elems) (j1 : IsTs w vb x.fn.body) (j2 : IsTs w vc x.kids) : IsTs w (.slice (some ⟨b, 0, none⟩) 1 1) (x.cons .nil) := by
  refine ⟨some ⟨b, 0, none⟩, 1, rfl, Nat.le_refl _, by decide, by simp, fun _ => ⟨b, 0, rfl, ⟨vs, ve, vb, vc, ⟨?_, ?_, ?_, ?_, ?_, ?_, ?_, ?_, ?_, ?_, ?_⟩, i1, i2, i3, j1, j2⟩, trivial⟩⟩
  all_goals rw [Lib.cell_of_heap h]; rfl

/-- A reader's block, and what its doing leaves as it is: all other blocks. -/
def PR (w : World) (rb : Nat) (fv : Value) (ins bad : Bool) : Prop := w.heap[rb]? = some (.cells #[fv, .bool ins, .bool bad] 75)
structure Fr (rb : Nat) (w w' : World) : Prop where
  os : w'.os = w.os
  tape : w'.tape = w.tape
  output : w'.output = w.output
  size : w.heap.size ≤ w'.heap.size
  block : ∀ k, k < w.heap.size → k ≠ rb → w'.heap[k]? = w.heap[k]?
theorem Fr.refl (rb : Nat) (w : World) : Fr rb w w := ⟨rfl, rfl, rfl, Nat.le_refl _, fun _ _ _ => rfl⟩
theorem Fr.trans {rb : Nat} {a b c : World} (h : Fr rb a b) (k : Fr rb b c) : Fr rb a c :=
  ⟨k.os.trans h.os, k.tape.trans h.tape, k.output.trans h.output, Nat.le_trans h.size k.size, fun j hj hn => (k.block j (Nat.lt_of_lt_of_le hj h.size) hn).trans (h.block j hj hn)⟩
theorem Fr.of_below {rb : Nat} {w w' : World} (h : Below w.heap.size w w') : Fr rb w w' := ⟨h.os, h.tape, h.output, h.size, fun k hk _ => h.block k hk⟩
theorem PR.lt {w : World} {rb : Nat} {fv : Value} {i b : Bool} (h : PR w rb fv i b) : rb < w.heap.size := (Array.getElem?_eq_some_iff.1 h).1
theorem PR.cells {w : World} {rb : Nat} {fv : Value} {i b : Bool} (h : PR w rb fv i b) : w.cell? ⟨rb, 0, none⟩ = some fv ∧ w.cell? ⟨rb, 1, none⟩ = some (.bool i) ∧ w.cell? ⟨rb, 2, none⟩ = some (.bool b) ∧ w.frozen? ⟨rb, 0, none⟩ = false ∧ w.frozen? ⟨rb, 1, none⟩ = false ∧ w.frozen? ⟨rb, 2, none⟩ = false := zero_facts h
theorem PR.set {w : World} {rb : Nat} {fv : Value} {i b : Bool} (h : PR w rb fv i b) (c : Bool) : PR (w.setCell ⟨rb, 2, none⟩ (.bool c)) rb fv i c := by
  unfold PR; rw [heap_set1 (i := 2) h]; rfl
theorem PR.below {w w' : World} {rb : Nat} {fv : Value} {i b : Bool} (h : PR w rb fv i b) (hb : Below w.heap.size w w') : PR w' rb fv i b := (hb.block rb h.lt).trans h
theorem Fr.set {rb : Nat} {a w : World} (h : Fr rb a w) (c : Value) : Fr rb a (w.setCell ⟨rb, 2, none⟩ c) :=
  ⟨h.os, h.tape, h.output, by have := h.size; simpa [World.setCell] using this, fun k hk hn => by rw [Below.heap_setCell _ _ _ _ hn]; exact h.block k hk hn⟩
theorem soft_of {w w' : World} {rb : Nat} {fv : Value} {i b c : Bool} (h : PR w rb fv i b) (h' : PR w' rb fv i c) (hf : Fr rb w w') : Soft w w' := by
  intro p v hp hv
  have hlt := World.block_lt_of_cell? w p hp
  by_cases hr : p.block = rb
  · obtain ⟨pb, po, ps⟩ := p
    simp only at hr; subst hr
    unfold World.cell? at hp ⊢
    rw [show w.heap[pb]? = _ from h] at hp
    rw [show w'.heap[pb]? = _ from h']
    revert hp
    simp only
    split
    all_goals first | exact id | skip
    all_goals
      intro hp
      rcases po with _ | _ | _ | po
      · simpa using hp
      · simpa using hp
      · simp at hp; exact absurd hp.symm (hv _)
      · simp at hp
  · rw [World.cell?_of_block (w := w) (hf.block p.block hlt hr)]; exact hp
end Go.Proofs.YthlingdlehdlhaaGreatDoor.Par

namespace Go.Proofs.YthlingdlehdlhaaGreatDoor.Par
open Go.RowKit Go.Shelf
set_option linter.unusedVariables false
set_option linter.unusedSimpArgs false

set_option maxRecDepth 100000 in
theorem is_any (t : Tok) (vs ve : Value) (g : List UInt8) (s : ByteArray) (hs : s = bs g) (w : World) :
    Calls Tryz.prog 83 #[.agg #[.int .i64 t.kind, .string (bs t.txt), .int .i64 t.val.kind, vs, ve], .string s] w fun e w' => e = .returned (.bool (isG t g)) ∧ Below w.heap.size w w' := by
  subst hs
  have hB := (Below.refl _ w).alloc (Nat.le_refl _) (.cells #[.int .i64 t.kind, .string (bs t.txt), .int .i64 t.val.kind, vs, ve] 48)
  have HG := hid (show isG t g = ((t.kind == 3) && ((bs t.txt).toList == (bs g).toList)) by unfold isG; rw [bs_txt, Bool.eq_iff_iff]; simp)
  go_enter Tryz.func83, Tryz.ntmps83
  cases hk : (t.kind == 3)
  all_goals have Hk := hid hk
  · go_wp2_with fail
    go_ret
    exact ⟨by rw [HG.out, Hk.out]; rfl, hB⟩
  · go_wp2_with fail
    go_ret
    exact ⟨by rw [HG.out, Hk.out]; rfl, hB⟩

theorem Strs.soft {w w' : World} {v : Value} {xs : List ByteArray} (h : Strs w v xs) (hs : Soft w w') : Strs w' v xs := by
  obtain ⟨a, cap, e, h1, h2, h3, h4⟩ := h
  refine ⟨a, cap, e, h1, h2, h3, fun i hi => ?_⟩
  obtain ⟨b, o, e, hc⟩ := h4 i hi
  refine ⟨b, o, e, hs _ _ hc fun q hq => ?_⟩
  rw [List.getElem_map] at hq; cases hq
/-- Where a text stands in a list; -1: nowhere. -/
def idxS (xs : List (List UInt8)) (s : List UInt8) : Int := if s ∈ xs then (xs.idxOf s : Int) else -1
theorem idxOf_le (s : List UInt8) : ∀ (ys : List (List UInt8)) (k : Nat), ys[k]? = some s → ys.idxOf s ≤ k := by
  intro ys
  induction ys with
  | nil => intro k h; simp at h
  | cons y ys ih =>
    intro k h
    rw [List.idxOf_cons]
    cases k with
    | zero => simp at h; simp [h]
    | succ k =>
      cases hy : (y == s)
      · have := ih k (by simpa using h); simp; omega
      · simp
theorem idx_at (xs : List (List UInt8)) (s : List UInt8) (k : Nat) (h : xs[k]? = some s) (hn : ∀ j, j < k → xs[j]? ≠ some s) : idxS xs s = k := by
  have hm : s ∈ xs := List.mem_of_getElem? h
  have hlt := List.idxOf_lt_length_of_mem hm
  have hg : xs[xs.idxOf s]? = some s := by rw [List.getElem?_eq_getElem hlt, List.getElem_idxOf hlt]
  unfold idxS; rw [if_pos hm]
  congr 1
  have h2 := idxOf_le s xs k h
  rcases Nat.lt_or_ge (xs.idxOf s) k with h1 | h1
  · exact absurd hg (hn _ h1)
  · omega
theorem bs_inj {a b : List UInt8} (h : bs a = bs b) : a = b := by
  have := congrArg (fun b : ByteArray => b.data.toList) h
  simpa only [bs_list] using this
set_option maxRecDepth 100000 in
set_option maxHeartbeats 400000 in
theorem index_any (v : Value) (xs : List (List UInt8)) (t : List UInt8) (s : ByteArray) (hs : s = bs t) (w : World) (hx : Strs w v (xs.map bs)) :
    Calls Tryz.prog 185 #[v, .string s] w fun e w' => e = .returned (.int .i64 (idxS xs t)) ∧ Quiet w w' := by
  subst hs
  obtain ⟨a, cap, rfl, h1, h2, h3, hc⟩ := hx.parts
  rw [List.length_map] at *
  clear hx
  go_enter Tryz.func185, Tryz.ntmps185
  go_wp2
  go_loopw [5, 8] (fun _ i wr => ∃ k : Nat, k ≤ xs.length ∧ i = .int .i64 k ∧ (∀ j, j < k → xs[j]? ≠ some t) ∧ Quiet w wr) (fun _ i _ => xs.length - (intOf i).toNat)
  case atStart => exact ⟨0, by omega, rfl, fun j hj => by omega, Quiet.refl _⟩
  case round =>
    obtain ⟨k, hk, rfl, ht, ⟨nq0, rfl⟩⟩ := hrel
    by_cases hlt : k < xs.length
    · rcases hc with hc | ⟨b, o, rfl, hc⟩
      · simp only [List.map_eq_nil_iff] at hc; subst hc; simp at hlt
      have hcell := hc k (by simpa using hlt)
      rw [List.getElem_map] at hcell
      have hg : xs[k]? = some xs[k] := List.getElem?_eq_getElem hlt
      generalize xs[k] = l at hcell hg
      have hki : (k : Int) < (xs.length : Int) := by omega
      by_cases he : t = l
      · subst he
        have H : Hid (idxS xs t = k) := hid (idx_at xs t k hg ht)
        clear ht hc hg
        go_wp2
        go_ret
        exact ⟨by rw [H.out]; rfl, ⟨_, rfl⟩⟩
      · have H : Hid (∀ j, j < k + 1 → xs[j]? ≠ some t) := hid (fun j hj => by
          rcases Nat.lt_or_ge j k with h | h
          · exact ht j h
          · have : j = k := by omega
            subst this; rw [hg]; intro e; cases e; exact he rfl)
        have hbe := str_ne (fun e : bs t = bs l => he (bs_inj e))
        clear ht hc hg he
        go_wp2
        go_roundw
        case rel => exact ⟨k + 1, by omega, by go_num, H.out, ⟨_, rfl⟩⟩
        case measure => simp [intOf]; omega
    · have H : Hid (idxS xs t = -1) := hid (by
        unfold idxS; rw [if_neg]
        intro hm
        obtain ⟨j, hj, e⟩ := List.getElem_of_mem hm
        exact ht j (by omega) (by rw [List.getElem?_eq_getElem hj, e]))
      clear ht hc
      go_wp2
      go_ret
      exact ⟨by rw [H.out]; rfl, ⟨_, rfl⟩⟩
theorem idxS_pos (xs : List (List UInt8)) (s : List UInt8) : decide (0 ≤ idxS xs s) = decide (s ∈ xs) := by
  unfold idxS; split
  · rename_i h; simp [h]
  · rename_i h; simp [h]
set_option maxRecDepth 100000 in
theorem contains_of (a : Option Addr) (n c : Nat) (s : ByteArray) (i : Int) (w : World) (h : Calls Tryz.prog 185 #[.slice a n c, .string s] w fun e w' => e = .returned (.int .i64 i) ∧ Quiet w w') :
    Calls Tryz.prog 164 #[.slice a n c, .string s] w fun e w' => e = .returned (.bool (decide (0 ≤ i))) ∧ Quiet w w' := by
  go_enter Tryz.func164, Tryz.ntmps164
  go_wp2_with fail
  refine h.mono ?_
  rintro e w1 ⟨rfl, nq, rfl⟩
  go_wp2_with fail
  go_ret
  exact ⟨rfl, ⟨_, rfl⟩⟩
theorem contains_any (v : Value) (xs : List (List UInt8)) (t : List UInt8) (s : ByteArray) (hs : s = bs t) (w : World) (hx : Strs w v (xs.map bs)) :
    Calls Tryz.prog 164 #[v, .string s] w fun e w' => e = .returned (.bool (decide (t ∈ xs))) ∧ Quiet w w' := by
  have h := index_any v xs t s hs w hx
  obtain ⟨a, cap, rfl, -⟩ := hx.parts
  rw [← idxS_pos]
  exact contains_of a _ cap s _ w h
/-- Which brackets a token is of; -1: it is none. -/
def brk (t : Tok) : Int := if isG t gLP = true ∨ isG t gRP = true then 0 else if isG t gLB = true ∨ isG t gRB = true then 1 else if isG t gLC = true ∨ isG t gRC = true then 2 else -1
theorem brk_none {t : Tok} (h : ¬ (t.kind = 3 ∧ t.txt.length = 1)) : brk t = -1 ∧ isOpen t = false := by
  have : ∀ c : UInt8, isG t [c] = false := fun c => by
    unfold isG
    rw [Bool.and_eq_false_iff]
    by_cases hk : t.kind = 3
    · right; rw [decide_eq_false_iff_not]; intro e; exact h ⟨hk, by rw [e]; rfl⟩
    · left; simpa using hk
  unfold brk isOpen gLP gRP gLB gRB gLC gRC
  simp [this]
set_option maxHeartbeats 2000000 in
theorem brk_one {t : Tok} {c : UInt8} (hk : t.kind = 3) (hc : t.txt = [c]) :
    brk t = (if 0 ≤ Lib.indexByte [40, 91, 123] c then Lib.indexByte [40, 91, 123] c else Lib.indexByte [41, 93, 125] c) ∧ isOpen t = decide (0 ≤ Lib.indexByte [40, 91, 123] c) := by
  have e : ∀ d : UInt8, isG t [d] = decide (c = d) := fun d => by unfold isG; rw [hk, hc]; simp
  unfold brk isOpen gLP gRP gLB gRB gLC gRC
  simp only [e, decide_eq_true_eq]
  by_cases h1 : c = 40
  · subst h1; decide +kernel
  by_cases h2 : c = 91
  · subst h2; decide +kernel
  by_cases h3 : c = 123
  · subst h3; decide +kernel
  by_cases h4 : c = 41
  · subst h4; decide +kernel
  by_cases h5 : c = 93
  · subst h5; decide +kernel
  by_cases h6 : c = 125
  · subst h6; decide +kernel
  have n : ∀ d : UInt8, c ≠ d → (d == c) = false := fun d hd => by rw [beq_eq_false_iff_ne]; exact fun e => hd e.symm
  simp [Lib.indexByte, h1, h2, h3, h4, h5, h6, n _ h1, n _ h2, n _ h3, n _ h4, n _ h5, n _ h6]
set_option maxRecDepth 100000 in
set_option maxHeartbeats 400000 in
theorem bracket_any (t : Tok) (vs ve : Value) (w : World) :
    Calls Tryz.prog 80 #[.agg #[.int .i64 t.kind, .string (bs t.txt), .int .i64 t.val.kind, vs, ve]] w fun e w' => e = .returned (.tuple #[.int .i64 (brk t), .bool (isOpen t)]) ∧ Below w.heap.size w w' := by
  have hB := (Below.refl _ w).alloc (Nat.le_refl _) (.cells #[.int .i64 t.kind, .string (bs t.txt), .int .i64 t.val.kind, vs, ve] 48)
  have hlen := bs_size t.txt
  by_cases hk : t.kind = 3
  · by_cases hl : t.txt.length = 1
    · obtain ⟨c, hc⟩ := List.length_eq_one_iff.1 hl
      obtain ⟨h1, h2⟩ := brk_one hk hc
      have H1 := hid h1
      have H2 := hid h2
      obtain ⟨k, tx, va⟩ := t
      simp only at hk hc hl hlen ⊢ H1 H2
      subst hk hc
      have hi1 := Tryz.strings_Index_one ⟨#[40, 91, 123]⟩ c
      have hi2 := Tryz.strings_Index_one ⟨#[41, 93, 125]⟩ c
      rw [show bs [c] = ⟨#[c]⟩ from rfl] at hB ⊢
      rw [show (ByteArray.mk #[40, 91, 123]).data.toList = [40, 91, 123] from rfl] at hi1
      rw [show (ByteArray.mk #[41, 93, 125]).data.toList = [41, 93, 125] from rfl] at hi2
      clear h1 h2 hl hlen
      generalize Lib.indexByte [40, 91, 123] c = i1 at *
      generalize Lib.indexByte [41, 93, 125] c = i2 at *
      go_enter Tryz.func80, Tryz.ntmps80
      go_wp2_with fail
      refine (hi1 _).mono ?_
      rintro e w1 ⟨rfl, hw⟩
      obtain rfl := hw.symm
      by_cases hp : 0 ≤ i1
      · have hd : decide (0 ≤ i1) = true := by simpa using hp
        go_wp2_with fail
        refine bodyPost_ret (results_tmp2 rfl _ _ _) rfl ?_
        exact ⟨by rw [H1.out, H2.out, if_pos hp, hd]; rfl, hB⟩
      · have hd : decide (0 ≤ i1) = false := by simpa using hp
        go_wp2_with fail
        refine (hi2 _).mono ?_
        rintro e w1 ⟨rfl, hw⟩
        obtain rfl := hw.symm
        go_wp2_with fail
        refine bodyPost_ret (results_tmp2 rfl _ _ _) rfl ?_
        exact ⟨by rw [H1.out, H2.out, if_neg (by simpa using hd), hd]; rfl, hB⟩
    · obtain ⟨h1, h2⟩ := brk_none (fun h => hl h.2)
      have q1 : (((bs t.txt).size : Int) != 1) = true := by rw [bne_iff_ne, hlen]; omega
      have q2 : ((t.txt.length : Int) != 1) = true := by rw [bne_iff_ne]; omega
      have q3 : (t.kind != 3) = false := by simp [hk]
      rw [h1, h2]
      clear h1 h2 hl hlen hk
      go_enter Tryz.func80, Tryz.ntmps80
      go_wp2_with fail
      refine bodyPost_ret (results_tmp2 rfl _ _ _) rfl ?_
      exact ⟨rfl, hB⟩
  · obtain ⟨h1, h2⟩ := brk_none (t := t) (fun h => hk h.1)
    have q3 : (t.kind != 3) = true := by simpa using hk
    rw [h1, h2]
    clear h1 h2 hlen hk
    go_enter Tryz.func80, Tryz.ntmps80
    go_wp2_with fail
    refine bodyPost_ret (results_tmp2 rfl _ _ _) rfl ?_
    exact ⟨rfl, hB⟩
end Go.Proofs.YthlingdlehdlhaaGreatDoor.Par

namespace Go.Proofs.YthlingdlehdlhaaGreatDoor.Par
open Go.RowKit Go.Shelf
set_option linter.unusedVariables false
set_option linter.unusedSimpArgs false

def exZero : Value := .agg #[.int .i64 0, .string ⟨#[]⟩, .int .i64 0, .slice none 0 0, .slice none 0 0, .int .i64 0, .int .i64 0, .int .i64 0, .string ⟨#[]⟩, .slice none 0 0, .slice none 0 0]
set_option maxRecDepth 100000 in
theorem fail_any (w : World) (rb : Nat) (fv : Value) (ins bad : Bool) (h : PR w rb fv ins bad) :
    Calls Tryz.prog 155 #[.pointer (some ⟨rb, 0, none⟩)] w fun e w' => e = .returned exZero ∧ PR w' rb fv ins true ∧ Fr rb w w' := by
  have hlt := h.lt
  have hne : rb ≠ w.heap.size := by omega
  obtain ⟨c0, c1, c2, f0, f1, f2⟩ := h.cells
  go_enter Tryz.func155, Tryz.ntmps155
  go_wp2_with fail
  have hN := heap_alloc_new (w.setCell ⟨rb, 2, none⟩ (.bool true)) (.cells #[.int .i64 0, .string ⟨#[]⟩, .int .i64 0, .slice none 0 0, .slice none 0 0, .int .i64 0, .int .i64 0, .int .i64 0, .string ⟨#[]⟩, .slice none 0 0, .slice none 0 0] 36)
  have hz : (w.setCell ⟨rb, 2, none⟩ (.bool true)).heap.size = w.heap.size := by simp [World.setCell]
  have hb := (Below.refl _ (w.setCell ⟨rb, 2, none⟩ (.bool true))).alloc (Nat.le_refl _) (.cells #[.int .i64 0, .string ⟨#[]⟩, .int .i64 0, .slice none 0 0, .slice none 0 0, .int .i64 0, .int .i64 0, .int .i64 0, .string ⟨#[]⟩, .slice none 0 0, .slice none 0 0] 36)
  rw [hz] at hN
  refine bodyPost_ret (results_cell_row rfl _ _ w.heap.size _ _ _ _ rfl hN Tryz.underlying36 rfl (by kernel_rfl)) rfl ?_
  exact ⟨rfl, (h.set true).below hb, ((Fr.refl rb w).set (.bool true)).trans (Fr.of_below hb)⟩
set_option maxRecDepth 100000 in
set_option maxHeartbeats 1000000 in
theorem fun_any (t : Tok) (vs ve : Value) (w : World) (rb : Nat) (fv : Value) (ins bad : Bool) (F : List (List UInt8)) (h : PR w rb fv ins bad) (hF : Strs w fv (F.map bs)) :
    Calls Tryz.prog 157 #[.pointer (some ⟨rb, 0, none⟩), .agg #[.int .i64 t.kind, .string (bs t.txt), .int .i64 t.val.kind, vs, ve]] w fun e w' => e = .returned (.bool (isFun F t)) ∧ Below w.heap.size w w' := by
  obtain ⟨k, tx, va⟩ := t
  simp only
  have hB := (Below.refl _ w).alloc (Nat.le_refl _) (.cells #[.int .i64 k, .string (bs tx), .int .i64 va.kind, vs, ve] 48)
  have hA := heap_alloc_new w (.cells #[.int .i64 k, .string (bs tx), .int .i64 va.kind, vs, ve] 48)
  have HG := hid (show isFun F ⟨k, tx, va⟩ = ((k == 2) && decide (tx ∈ F)) by unfold isFun; rw [Bool.eq_iff_iff]; simp)
  obtain ⟨a, n, c, rfl⟩ : ∃ a n c, fv = .slice a n c := by obtain ⟨a, c, e, -⟩ := hF.parts; exact ⟨a, _, c, e⟩
  have hF1 := hF.below hB
  obtain ⟨c0, -⟩ := (h.below hB).cells
  by_cases hk : k = 2
  · subst hk
    obtain ⟨W, hW⟩ : ∃ W, W = w.alloc (.cells #[.int .i64 2, .string (bs tx), .int .i64 va.kind, vs, ve] 48) := ⟨_, rfl⟩
    rw [← hW] at hB hA hF1 c0
    have d0 : W.cell? ⟨w.heap.size, 0, none⟩ = some (.int .i64 2) := by rw [Lib.cell_of_heap hA]; rfl
    have d1 : W.cell? ⟨w.heap.size, 1, none⟩ = some (.string (bs tx)) := by rw [Lib.cell_of_heap hA]; rfl
    have g0 := Below.refl W.heap.size W
    have rC : ∀ V, Below W.heap.size W V → Calls Tryz.prog 164 #[.slice a n c, .string (bs tx)] V fun e w' => e = .returned (.bool (decide (tx ∈ F))) ∧ Below W.heap.size W w' := fun V hg => (contains_any _ F tx _ rfl V (hF1.below hg)).mono fun e w' hh => ⟨hh.1, hg.trans (hh.2.below _)⟩
    have keep : ∀ V, Below W.heap.size W V → V.cell? ⟨rb, 0, none⟩ = some (.slice a n c) ∧ V.cell? ⟨w.heap.size, 0, none⟩ = some (.int .i64 2) ∧ V.cell? ⟨w.heap.size, 1, none⟩ = some (.string (bs tx)) := fun V hg =>
      ⟨(hg.cell (World.block_lt_of_cell? W _ c0)).trans c0, (hg.cell (World.block_lt_of_cell? W _ d0)).trans d0, (hg.cell (World.block_lt_of_cell? W _ d1)).trans d1⟩
    have K0 := keep _ g0.drew
    clear hF hF1 hA h
    generalize decide (tx ∈ F) = B at *
    go_enter Tryz.func157, Tryz.ntmps157
    go_wp2_with fail
    rw [← hW]
    clear hW
    go_region_held3 (fun w' => w'.cell? ⟨rb, 0, none⟩ = some (.slice a n c) ∧ w'.cell? ⟨w.heap.size, 0, none⟩ = some (.int .i64 2) ∧ w'.cell? ⟨w.heap.size, 1, none⟩ = some (.string (bs tx)))
      (first | with_reducible exact K0 | with_reducible exact keep _ g1 | fail)
      (first | (go_at_call 164; refine (rC _ g0.drew).mono ?_; rintro e v1 ⟨rfl, g1⟩) | fail)
    go_wp2
    go_ret
    exact ⟨by rw [HG.out]; rfl, hB.trans (g1.mono hB.size)⟩
  · have hk2 : (k == 2) = false := by simpa using hk
    clear hF hF1 h hA
    generalize decide (tx ∈ F) = B at *
    go_enter Tryz.func157, Tryz.ntmps157
    go_wp2_with fail
    go_quiet (fail)
    go_wp2
    go_ret
    exact ⟨by rw [HG.out, hk2]; rfl, below_drewN hB _⟩
end Go.Proofs.YthlingdlehdlhaaGreatDoor.Par

namespace Go.Proofs.YthlingdlehdlhaaGreatDoor.Par
open Go.RowKit Go.Shelf
set_option linter.unusedVariables false
set_option linter.unusedSimpArgs false

/-- A token's block. -/
def TB (w : World) (b : Nat) (t : Tok) (vs ve : Value) : Prop := w.heap[b]? = some (.cells #[.int .i64 t.kind, .string (bs t.txt), .int .i64 t.val.kind, vs, ve] 48)
theorem TB.below {w w' : World} {b : Nat} {t : Tok} {vs ve : Value} (h : TB w b t vs ve) (hb : Below w.heap.size w w') : TB w' b t vs ve := (hb.block b (Array.getElem?_eq_some_iff.1 h).1).trans h
theorem TB.cells {w : World} {b : Nat} {t : Tok} {vs ve : Value} (h : TB w b t vs ve) : w.cell? ⟨b, 0, none⟩ = some (.int .i64 t.kind) ∧ w.cell? ⟨b, 1, none⟩ = some (.string (bs t.txt)) ∧ w.cell? ⟨b, 2, none⟩ = some (.int .i64 t.val.kind) ∧ w.cell? ⟨b, 3, none⟩ = some vs ∧ w.cell? ⟨b, 4, none⟩ = some ve := by
  refine ⟨?_, ?_, ?_, ?_, ?_⟩ <;> (rw [Lib.cell_of_heap h]; rfl)
set_option maxRecDepth 100000 in
theorem ends1_any (t : Tok) (vs ve : Value) (g : List UInt8) (s : ByteArray) (hs : s = bs g) (b : Nat) (w : World) (h : TB w b t vs ve) :
    Calls Tryz.prog 162 #[.string s, .pointer (some ⟨b, 0, none⟩)] w fun e w' => e = .returned (.bool (isG t g)) ∧ Below w.heap.size w w' := by
  obtain ⟨c0, c1, c2, c3, c4⟩ := h.cells
  have hi := is_any t vs ve g s hs w
  generalize isG t g = B at *
  clear hs
  go_enter Tryz.func162, Tryz.ntmps162
  go_wp2_with fail
  refine hi.mono ?_
  rintro e w1 ⟨rfl, b1⟩
  go_wp2_with fail
  go_ret
  exact ⟨rfl, b1⟩
set_option maxRecDepth 100000 in
set_option maxHeartbeats 400000 in
theorem indexG_any (v : Value) (xs : List (List UInt8)) (t : Tok) (vs ve : Value) (b : Nat) (w : World) (hx : Strs w v (xs.map bs)) (h : TB w b t vs ve) :
    Calls Tryz.prog 187 #[v, .func (.func 162) #[] #[.pointer (some ⟨b, 0, none⟩)]] w fun e w' => (∃ r, e = .returned (.int .i64 r) ∧ decide (0 ≤ r) = xs.any (isG t)) ∧ Below w.heap.size w w' := by
  obtain ⟨a, cap, rfl, h1, h2, h3, hc⟩ := hx.parts
  rw [List.length_map] at *
  clear hx
  go_enter Tryz.func187, Tryz.ntmps187
  go_wp2
  go_loopw [5, 8] (fun _ i wr => ∃ k : Nat, k ≤ xs.length ∧ i = .int .i64 k ∧ (xs.take k).any (isG t) = false ∧ Below w.heap.size w wr) (fun _ i _ => xs.length - (intOf i).toNat)
  case atStart => exact ⟨0, by omega, rfl, by simp, Below.refl _ _⟩
  case round =>
    obtain ⟨k, hk, rfl, ht, hB⟩ := hrel
    by_cases hlt : k < xs.length
    · rcases hc with hc | ⟨b', o, rfl, hc⟩
      · simp only [List.map_eq_nil_iff] at hc; subst hc; simp at hlt
      have hcell0 := hc k (by simpa using hlt)
      rw [List.getElem_map] at hcell0
      have hcell := (hB.cell (World.block_lt_of_cell? w _ hcell0)).trans hcell0
      have hg : xs[k]? = some xs[k] := List.getElem?_eq_getElem hlt
      have hki : (k : Int) < (xs.length : Int) := by omega
      have t1 : xs.take (k + 1) = xs.take k ++ [xs[k]] := List.take_succ_eq_append_getElem hlt
      generalize xs[k] = l at hcell hg t1
      have hTB := h.below hB
      cases hb : isG t l
      · have H : Hid ((xs.take (k + 1)).any (isG t) = false) := hid (by rw [t1, List.any_append, ht]; simp [hb])
        clear ht hc hcell0 hg t1
        go_wp2_with fail
        refine (ends1_any t vs ve l _ rfl b _ hTB).mono ?_
        rintro e w1 ⟨rfl, b1⟩
        rw [hb]
        go_wp2_with fail
        go_roundw
        case rel => exact ⟨k + 1, by omega, by go_num, H.out, hB.trans (b1.mono hB.size)⟩
        case measure => simp [intOf]; omega
      · have H : Hid (decide (0 ≤ (k : Int)) = xs.any (isG t)) := hid (by
          rw [show xs.any (isG t) = true from List.any_eq_true.2 ⟨l, List.mem_of_getElem? hg, hb⟩]; simp)
        clear ht hc hcell0 hg t1
        go_wp2_with fail
        refine (ends1_any t vs ve l _ rfl b _ hTB).mono ?_
        rintro e w1 ⟨rfl, b1⟩
        rw [hb]
        go_wp2_with fail
        go_ret
        exact ⟨⟨_, rfl, H.out⟩, hB.trans (b1.mono hB.size)⟩
    · have H : Hid (xs.any (isG t) = false) := hid (by rw [List.take_of_length_le (by omega)] at ht; exact ht)
      clear ht hc
      go_wp2
      go_ret
      exact ⟨⟨_, rfl, by rw [H.out]; rfl⟩, hB⟩
set_option maxRecDepth 100000 in
theorem containsG_any (v : Value) (xs : List (List UInt8)) (t : Tok) (vs ve : Value) (b : Nat) (w : World) (hx : Strs w v (xs.map bs)) (h : TB w b t vs ve) :
    Calls Tryz.prog 161 #[v, .func (.func 162) #[] #[.pointer (some ⟨b, 0, none⟩)]] w fun e w' => e = .returned (.bool (xs.any (isG t))) ∧ Below w.heap.size w w' := by
  have hi := indexG_any v xs t vs ve b w hx h
  obtain ⟨a, cap, rfl, -⟩ := hx.parts
  clear hx h
  generalize xs.any (isG t) = B at *
  rw [List.length_map] at *
  go_enter Tryz.func161, Tryz.ntmps161
  go_wp2_with fail
  refine hi.mono ?_
  rintro e w' ⟨⟨r, rfl, hr⟩, hq⟩
  have H := hid hr
  clear hr
  go_wp2_with fail
  go_ret
  exact ⟨by rw [H.out]; rfl, hq⟩
end Go.Proofs.YthlingdlehdlhaaGreatDoor.Par

namespace Go.Proofs.YthlingdlehdlhaaGreatDoor.Par
open Go.RowKit Go.Shelf
set_option linter.unusedVariables false
set_option linter.unusedSimpArgs false

theorem strsL {w : World} {b n : Nat} {T : TypeId} (xs : List ByteArray) (h : w.heap[b]? = some (.cells (xs.map Value.string).toArray T)) (hn : n = xs.length) (hb : xs.length ≤ maxLen) : Strs w (.slice (some ⟨b, 0, none⟩) n n) xs := by
  subst hn
  have := Strs.of_owns (w := w) (base := 0) (e := T) (v := .slice (some ⟨b, 0, none⟩) xs.length xs.length) (xs := xs) ⟨by simp, .inr ⟨b, xs.length, _, rfl, Nat.zero_le _, h, Nat.le_refl _, hb, by simp, by simp [List.take_of_length_le]⟩⟩
  exact this
/-- The last token of a slice of tokens. -/
theorem toks_last {w : World} {v : Value} {l : List Tok} {t : Tok} (h : IsToks w v l) (ht : l.getLast? = some t) :
    ∃ b o c m vs ve, v = .slice (some ⟨b, o, none⟩) (m + 1) c ∧ l.length = m + 1 ∧ m + 1 ≤ c ∧ c ≤ 9223372036854775807 ∧ TokAt w b (o + m * 5) t vs ve ∧ Ints w vs t.val.shape ∧ Ints w ve t.val.elems ∧ Rng t.val.elems := by
  obtain ⟨h1, h2⟩ := last_get ht
  obtain ⟨a, c, rfl, k1, k2, k3, k4⟩ := h
  obtain ⟨b, o, vs, ve, rfl, e1, e2, e3, e4⟩ := k4 _ t h1
  refine ⟨b, o, c, l.length - 1, vs, ve, by rw [Nat.sub_add_cancel h2], by omega, by omega, k2, e1, e2, e3, e4⟩
theorem opG_eq (t : Tok) (h1 : ¬ t.kind = 1) (h2 : ¬ t.kind = 2) (F : List (List UInt8)) : endsT F t = [gRP, gRB, gAlpha, gOmega].any (isG t) := by
  unfold endsT; simp [h1, h2, List.any_cons, Bool.or_assoc]
set_option maxRecDepth 100000 in
set_option maxHeartbeats 2000000 in
theorem ends_any (w : World) (rb : Nat) (fv : Value) (ins bad : Bool) (F : List (List UInt8)) (h : PR w rb fv ins bad) (hF : Strs w fv (F.map bs)) (v : Value) (l : List Tok) (hl : IsToks w v l) :
    Calls Tryz.prog 130 #[.pointer (some ⟨rb, 0, none⟩), v] w fun e w' => e = .returned (.bool (endsF F l)) ∧ Below w.heap.size w w' := by
  cases ht : l.getLast? with
  | none =>
    have hn : l = [] := List.getLast?_eq_none_iff.1 ht
    have HE := hid (show endsF F l = false by unfold endsF; rw [ht])
    subst hn
    obtain ⟨a, c, rfl, -⟩ := hl
    clear h hF ht
    generalize endsF F [] = B at *
    rw [List.length_nil]
    go_enter Tryz.func130, Tryz.ntmps130
    go_wp2_with fail
    go_ret
    exact ⟨by rw [HE.out]; rfl, Below.refl _ _⟩
  | some t =>
    have HE := hid (show endsF F l = endsT F t by unfold endsF; rw [ht])
    obtain ⟨b, o, c, m, vs, ve, rfl, hm, hm1, hm2, ⟨c0, c1, c2, c3, c4⟩, i1, i2, i3⟩ := toks_last hl ht
    obtain ⟨sa, sc, rfl, -⟩ := i1.parts
    obtain ⟨ea, ec, rfl, -⟩ := i2.parts
    have hB := (Below.refl _ w).alloc (Nat.le_refl _) (.cells #[.int .i64 t.kind, .string (bs t.txt), .int .i64 t.val.kind, .slice sa t.val.shape.length sc, .slice ea t.val.elems.length ec] 48)
    have hA := heap_alloc_new w (.cells #[.int .i64 t.kind, .string (bs t.txt), .int .i64 t.val.kind, .slice sa t.val.shape.length sc, .slice ea t.val.elems.length ec] 48)
    obtain ⟨W, hW⟩ : ∃ W, W = w.alloc (.cells #[.int .i64 t.kind, .string (bs t.txt), .int .i64 t.val.kind, .slice sa t.val.shape.length sc, .slice ea t.val.elems.length ec] 48) := ⟨_, rfl⟩
    rw [← hW] at hB hA
    have hTB : TB W w.heap.size t _ _ := hA
    obtain ⟨d0, d1, d2, d3, d4⟩ := hTB.cells
    have hP := h.below hB
    have hF1 := hF.below hB
    have s0 : ((m : Int) + 1 == 0) = false := by rw [beq_eq_false_iff_ne]; omega
    generalize endsF F l = E at *
    clear h hF hl ht hm i1 i2 i3
    by_cases k1 : t.kind = 1
    · have HT := hid (show endsT F t = true by unfold endsT; simp [k1])
      have t1 : (t.kind == 1) = true := by simp [k1]
      generalize endsT F t = ET at *
      clear k1
      go_enter Tryz.func130, Tryz.ntmps130
      go_wp2_with fail
      rw [← hW]
      go_ret
      exact ⟨by rw [HE.out, HT.out]; rfl, hB⟩
    · have t1 : (t.kind == 1) = false := by simpa using k1
      by_cases k2 : t.kind = 2
      · have t2 : (t.kind == 2) = true := by simp [k2]
        have HT := hid (show endsT F t = !isFun F t by unfold endsT isG; simp [k2])
        have hfun := fun_any t (.slice sa t.val.shape.length sc) (.slice ea t.val.elems.length ec) W rb fv ins bad F hP hF1
        generalize isFun F t = B at *
        generalize endsT F t = ET at *
        clear k1 k2
        go_enter Tryz.func130, Tryz.ntmps130
        go_wp2_with fail
        rw [← hW]
        refine hfun.mono ?_
        rintro e w1 ⟨rfl, b1⟩
        clear hW
        go_wp2_with fail
        go_ret
        exact ⟨by rw [HE.out, HT.out]; rfl, hB.trans (b1.mono hB.size)⟩
      · have t2 : (t.kind == 2) = false := by simpa using k2
        have HT := hid (opG_eq t k1 k2 F)
        generalize endsT F t = ET at *
        have hg := fun (O : Obj) (hO : O = .cells #[.string ⟨#[41]⟩, .string ⟨#[93]⟩, .string ⟨#[226, 141, 186]⟩, .string ⟨#[226, 141, 181]⟩] 9) =>
          containsG_any (.slice (some ⟨W.heap.size, 0, none⟩) 4 4) [gRP, gRB, gAlpha, gOmega] t _ _ w.heap.size (W.alloc O) (by subst hO; exact strsL ([gRP, gRB, gAlpha, gOmega].map bs) (heap_alloc_new _ _) rfl (by simp [maxLen])) (hTB.below ((Below.refl _ W).alloc (Nat.le_refl _) O))
        rw [show W.heap.size = w.heap.size + 1 by rw [hW]; simp] at hg
        generalize [gRP, gRB, gAlpha, gOmega].any (isG t) = B at *
        clear k1 k2
        go_enter Tryz.func130, Tryz.ntmps130
        go_wp2_with fail
        rw [← hW]
        refine (hg _ rfl).mono ?_
        rintro e w1 ⟨rfl, b1⟩
        clear hW hg
        go_wp2_with fail
        go_ret
        exact ⟨by rw [HE.out, HT.out]; rfl, (hB.alloc hB.size _).trans (b1.mono (Nat.le_trans hB.size (by simp)))⟩
end Go.Proofs.YthlingdlehdlhaaGreatDoor.Par
