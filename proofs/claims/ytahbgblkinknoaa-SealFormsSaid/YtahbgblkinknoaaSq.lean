/- What the program's layers from 9 on say, in plain words. -/
import Derived.Test.YtahbgblkinknoaaPl
namespace Go.AM
def okInts (v : AV) : Prop := isInts v ∧ (unInts v).length ≤ 100000000
def okLinks (v : AV) : Prop := isLinks v ∧ (unLinks v).length ≤ 100000000
def okLsas (v : AV) : Prop := isLsas v ∧ (unLsas v).length ≤ 100000000
def okHeads (v : AV) : Prop := isHeads v ∧ (unHeads v).length ≤ 100000000
@[simp] theorem okInts_V (l : List Int) : okInts (intsV l) ↔ l.length ≤ 100000000 := by simp [okInts]
@[simp] theorem okLinks_V (l : List Lk) : okLinks (linkV l) ↔ l.length ≤ 100000000 := by simp [okLinks]
@[simp] theorem okLsas_V (l : List Lsa) : okLsas (lsaV l) ↔ l.length ≤ 100000000 := by simp [okLsas]
@[simp] theorem okHeads_V (l : List Hd) : okHeads (headV l) ↔ l.length ≤ 100000000 := by simp [okHeads]
@[simp] theorem okInts_snil : okInts .snil := by simp [okInts]
@[simp] theorem okLinks_snil : okLinks .snil := by simp [okLinks]
@[simp] theorem okLsas_snil : okLsas .snil := by simp [okLsas]
@[simp] theorem okHeads_snil : okHeads .snil := by simp [okHeads]
/-- A row's number. -/
def iat (l : List Int) (i : Nat) : Int := l.getD i 0
theorem intsC_at {l : List Int} {i : Nat} (hi : i < l.length) : (intsC l).drop i = .int .i64 (iat l i) :: intsC (l.drop (i + 1)) := by
  rw [intsC_drop hi]; simp [iat, hi]
def helloOk (l : List Int) (i : Nat) : Bool := inR 1 4 (iat l i) && (decide (i = 0) || decide (iat l (i - 1) < iat l i))
def helloMay (l : List Int) : Bool := allTo (helloOk l) l.length
def heardB (l : List Int) : List UInt8 := b8 l.length :: l.map b8
theorem map_take_succ {α β : Type} (f : α → β) {l : List α} {j : Nat} (h : j < l.length) : (l.take (j + 1)).map f = (l.take j).map f ++ [f l[j]] := by
  rw [List.take_succ_eq_append_getElem h, List.map_append]; rfl
theorem heard_succ {l : List Int} {j : Nat} (h : j < l.length) : (l.take (j + 1)).map b8 = (l.take j).map b8 ++ [b8 (iat l j)] := by
  rw [map_take_succ b8 h]; simp [iat, h]
def headMay (t r n : Int) : Bool := isType t && (inR 1 4 r && inR 12 512 n)
def headB (t r n : Int) : List UInt8 := [b8 2] ++ [b8 t] ++ two n ++ four r ++ four 0
def numsB (k b c : Int) : List UInt8 := [b8 k] ++ [0, 0, 0] ++ four b ++ four c
def signB (k s : List UInt8) (r : Int) : List UInt8 := if inL 1 32 k then tagW k (s ++ four r) else []

instance : Inhabited Lk := ⟨⟨0, 0⟩⟩
instance : Inhabited Lsa := ⟨⟨0, 0, 0, []⟩⟩
instance : Inhabited Hd := ⟨⟨0, 0, 0, 0⟩⟩
def lat (l : List Lk) (i : Nat) : Lk := l.getD i default
def aat (l : List Lsa) (i : Nat) : Lsa := l.getD i default
def hat (l : List Hd) (i : Nat) : Hd := l.getD i default
def linkOk (r : Int) (l : List Lk) (i : Nat) : Bool :=
  inR 1 4 (lat l i).to && (!decide ((lat l i).to = r) && (inR 1 65535 (lat l i).cost && (decide (i = 0) || decide ((lat l (i - 1)).to < (lat l i).to))))
def linksMay (r : Int) (l : List Lk) : Bool := allTo (linkOk r l) l.length
def lsaMay (a : Lsa) : Bool := inR 1 4 a.router && (inR 1 2147483647 a.serial && (inR 0 60 a.age && linksMay a.router a.links))
def linkB (x : Lk) : List UInt8 := [b8 x.to] ++ two x.cost
def bodyB (a : Lsa) : List UInt8 := [b8 a.router] ++ four a.serial ++ [b8 a.links.length] ++ a.links.flatMap linkB
def fl1 (a : Int) (c : UInt8) : Int := (a + c.toNat) % 255
def flStep (p : Int × Int) (c : UInt8) : Int × Int := (fl1 p.1 c, (p.2 + fl1 p.1 c) % 255)
def flB (s : List UInt8) (j : Nat) : Int × Int := (s.take j).foldl flStep (0, 0)
def fletchB (s : List UInt8) : Int := 256 * (flB s s.length).2 + (flB s s.length).1
def lsaB (a : Lsa) : List UInt8 := [b8 a.age] ++ bodyB a ++ two (fletchB (bodyB a))
def updOk (l : List Lsa) (i : Nat) : Bool := lsaMay (aat l i) && (decide (i = 0) || decide ((aat l (i - 1)).router < (aat l i).router))
def updMay (l : List Lsa) : Bool := allTo (updOk l) l.length
def updB (l : List Lsa) : List UInt8 := b8 l.length :: l.flatMap lsaB
def hdMay (h : Hd) : Bool := inR 1 4 h.router && (inR 1 2147483647 h.serial && (inR 0 60 h.age && inR 0 65535 h.sum))
def ackOk (l : List Hd) (i : Nat) : Bool := hdMay (hat l i) && (decide (i = 0) || decide ((hat l (i - 1)).router < (hat l i).router))
def ackMay (l : List Hd) : Bool := allTo (ackOk l) l.length
def hdB (h : Hd) : List UInt8 := [b8 h.router] ++ [b8 h.age] ++ four h.serial ++ two h.sum
def ackB (l : List Hd) : List UInt8 := b8 l.length :: l.flatMap hdB
/-- A packet's list's bytes; may it be? -/
def listB (t : Int) (h : List Int) (ls : List Lsa) (hs : List Hd) : List UInt8 :=
  if t = 1 then (if helloMay h then heardB h else []) else if t = 4 then (if updMay ls then updB ls else []) else if t = 5 then (if ackMay hs then ackB hs else []) else []
def listMay (t : Int) (h : List Int) (ls : List Lsa) (hs : List Hd) : Bool :=
  if t = 1 then helloMay h && decide (ls.length + hs.length = 0) else if t = 4 then updMay ls && decide (h.length + hs.length = 0) else if t = 5 then ackMay hs && decide (h.length + ls.length = 0) else false
def pkMay (t r : Int) (h : List Int) (ls : List Lsa) (hs : List Hd) : Bool := listMay t h ls hs && headMay t r (12 + (listB t h ls hs).length)
def pkB (t r : Int) (h : List Int) (ls : List Lsa) (hs : List Hd) : List UInt8 := headB t r (12 + (listB t h ls hs).length) ++ listB t h ls hs
def sealMay (t r : Int) (h : List Int) (ls : List Lsa) (hs : List Hd) (ka : Int) (ks : List UInt8) (kb kc kd ke : Int) (b c : Int) : Bool :=
  pkMay t r h ls hs && (keyMay ka ks kb kc kd ke && (inR 1 4294967295 b && inR 1 4294967295 c))
def unB (t r : Int) (h : List Int) (ls : List Lsa) (hs : List Hd) (ka b c : Int) : List UInt8 := pkB t r h ls hs ++ numsB ka b c
def sealB (t r : Int) (h : List Int) (ls : List Lsa) (hs : List Hd) (ka : Int) (ks : List UInt8) (b c : Int) : List UInt8 := unB t r h ls hs ka b c ++ signB ks (unB t r h ls hs ka b c) r
end Go.AM
