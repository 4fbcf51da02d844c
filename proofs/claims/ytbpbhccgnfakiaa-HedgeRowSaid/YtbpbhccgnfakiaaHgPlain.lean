/- The plan of layer 22 (hedge) as plain data: lists and integers alone; no program and no memory is named here. -/
namespace Go.Proofs.Ytbpbhccgnfakiaa.Hg

structure Up where
  u : Int
  n : Int
  last : Int
  op : Bool

structure Plan where
  l : List Up
  next : Nat
  want : Int
  tries : Int
  every : Int
  wait : Int
  start : Int
  now : Int
  ks : Int
  begun : Bool

def Up.ask (x : Up) (now : Int) : Up := ⟨x.u, x.n + 1, now, true⟩
def Up.shut (x : Up) : Up := ⟨x.u, x.n, x.last, false⟩

def Plan.uAt (p : Plan) (i : Nat) : Int := match p.l[i]? with | some x => x.u | none => 0
def Plan.ask (p : Plan) (i : Nat) : Plan := { p with l := p.l.modify i (fun x => x.ask p.now), next := max p.next (i + 1) }
def Plan.to (p : Plan) (t : Int) : Plan := { p with now := max p.now (min t 1099511627776) }

/-- What a reading does with one upstream that was asked before: nothing; it is given up (false); it is asked again (true). -/
def Up.fate (x : Up) (now wait tries : Int) : Option Bool :=
  if x.op = false ∨ now - x.last < wait then none else if tries ≤ x.n then some false else some true

def Up.ticked (x : Up) (now wait tries : Int) : Up :=
  match x.fate now wait tries with
  | none => x
  | some false => x.shut
  | some true => x.ask now

def Up.goneOf (x : Up) (now wait tries : Int) : List Int :=
  match x.fate now wait tries with
  | some false => [x.u]
  | _ => []

def Up.sendOf (x : Up) (now wait tries : Int) : List Int :=
  match x.fate now wait tries with
  | some true => [x.u]
  | _ => []

/-- The plan in the midst of a reading: the first i have been looked at. -/
def Plan.mid (p : Plan) (i : Nat) : Plan :=
  { p with l := (p.l.take i).map (fun x => x.ticked p.now p.wait p.tries) ++ p.l.drop i }
def Plan.goneTo (p : Plan) (i : Nat) : List Int := (p.l.take i).flatMap (fun x => x.goneOf p.now p.wait p.tries)
def Plan.sendTo (p : Plan) (i : Nat) : List Int := (p.l.take i).flatMap (fun x => x.sendOf p.now p.wait p.tries)

/-- What a reading does behind that: the next one, where a further k is come to. -/
def Plan.more (p : Plan) : List Int × Plan :=
  if p.ks < (p.now - p.start) / p.every then
    let q := { p with ks := (p.now - p.start) / p.every }
    if p.next < p.l.length then ([q.uAt p.next], q.ask p.next) else ([], q)
  else ([], p)

def Plan.tick (p0 : Plan) (t : Int) : List Int × List Int × Plan :=
  let p := p0.to t
  let r := (p.mid p.next).more
  (p.goneTo p.next, p.sendTo p.next ++ r.1, r.2)

structure Plan.Ok (p : Plan) : Prop where
  len : p.l.length ≤ 9
  next : p.next ≤ p.l.length
  want : 1 ≤ p.want ∧ p.want ≤ 9
  tries : 1 ≤ p.tries ∧ p.tries ≤ 4
  every : 1 ≤ p.every ∧ p.every ≤ 1000
  wait : 1 ≤ p.wait ∧ p.wait ≤ 1000
  time : 0 ≤ p.start ∧ p.start ≤ p.now ∧ p.now ≤ 1099511627776
  ks : 0 ≤ p.ks ∧ p.ks ≤ 1099511627776
  ups : ∀ x ∈ p.l, 0 ≤ x.n ∧ x.n ≤ 4 ∧ 0 ≤ x.last ∧ x.last ≤ p.now
  rest : ∀ i x, p.next ≤ i → p.l[i]? = some x → x.n = 0 ∧ x.op = false

theorem Plan.mid_zero (p : Plan) : p.mid 0 = p := by cases p; simp [Plan.mid]

theorem take_succ_some {α : Type} {l : List α} {i : Nat} {x : α} (h : l[i]? = some x) : l.take (i + 1) = l.take i ++ [x] := by
  rw [List.take_add_one]; simp [h]

theorem drop_some {α : Type} {l : List α} {i : Nat} {x : α} (h : l[i]? = some x) : l.drop i = x :: l.drop (i + 1) := by
  obtain ⟨hi, rfl⟩ := List.getElem?_eq_some_iff.1 h
  exact List.drop_eq_getElem_cons hi

theorem Plan.goneTo_succ (p : Plan) {i : Nat} {x : Up} (h : p.l[i]? = some x) : p.goneTo (i + 1) = p.goneTo i ++ x.goneOf p.now p.wait p.tries := by
  simp [Plan.goneTo, take_succ_some h]

theorem Plan.sendTo_succ (p : Plan) {i : Nat} {x : Up} (h : p.l[i]? = some x) : p.sendTo (i + 1) = p.sendTo i ++ x.sendOf p.now p.wait p.tries := by
  simp [Plan.sendTo, take_succ_some h]

theorem Plan.mid_get (p : Plan) {i : Nat} {x : Up} (h : p.l[i]? = some x) : (p.mid i).l[i]? = some x := by
  obtain ⟨hi, rfl⟩ := List.getElem?_eq_some_iff.1 h
  simp [Plan.mid, List.getElem?_append_right, Nat.min_eq_left (Nat.le_of_lt hi), hi]

theorem Plan.mid_len (p : Plan) (i : Nat) : (p.mid i).l.length = p.l.length := by
  simp [Plan.mid]; omega

theorem modify_at {α : Type} (f : α → α) (l : List α) (i : Nat) (m : List α) (x : α) (hl : l.length = i) : (l ++ x :: m).modify i f = l ++ f x :: m := by
  subst hl
  induction l with
  | nil => simp
  | cons y l ih => simp [ih]

theorem Plan.mid_succ (p : Plan) {i : Nat} {x : Up} (h : p.l[i]? = some x) :
    (p.mid (i + 1)).l = (p.mid i).l.modify i (fun y => y.ticked p.now p.wait p.tries) := by
  obtain ⟨hi, _⟩ := List.getElem?_eq_some_iff.1 h
  simp only [Plan.mid, take_succ_some h, drop_some h]
  rw [modify_at _ _ _ _ _ (by simp; omega)]
  simp

end Go.Proofs.Ytbpbhccgnfakiaa.Hg
