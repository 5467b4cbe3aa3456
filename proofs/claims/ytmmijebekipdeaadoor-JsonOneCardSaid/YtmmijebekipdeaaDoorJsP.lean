/- Plain words for chapter 14: values, and how a text is read as one. No program in sight. -/
namespace Go.Proofs.YtmmijebekipdeaaDoor.Js

/-- a value: kind, text, names, items -/
inductive V where
  | mk (kind : Nat) (text : ByteArray) (names : List ByteArray) (items : List V)

def V.kind : V → Nat | .mk k _ _ _ => k
def V.text : V → ByteArray | .mk _ t _ _ => t
def V.names : V → List ByteArray | .mk _ _ n _ => n
def V.items : V → List V | .mk _ _ _ i => i

/-- the byte at k, 0 behind the end -/
def nx (s : ByteArray) (k : Nat) : Nat := if h : k < s.size then s[k].toNat else 0

/-- what is told where a byte cannot stand: 143, at the end 144 -/
def wrong (s : ByteArray) (k : Nat) : Nat × Nat := (k, if k = s.size then 144 else 143)

abbrev R (α : Type) := Except (Nat × Nat) α

def isSp (c : Nat) : Bool := c == 32 || c == 9 || c == 10 || c == 13
def isDg (c : Nat) : Bool := 48 ≤ c && c ≤ 57

/-- the end of a run of bytes -/
def runF (p : Nat → Bool) (s : ByteArray) : Nat → Nat → Nat
  | 0, k => k
  | n + 1, k => if p (nx s k) then runF p s n (k + 1) else k
def sp (s : ByteArray) (k : Nat) : Nat := runF isSp s (s.size - k) k
def dg (s : ByteArray) (k : Nat) : Nat := runF isDg s (s.size - k) k

/-- numbers: the end, or where it is wrong -/
def numX (s : ByteArray) (a : Nat) : Nat × Bool :=
  if nx s a = 101 ∨ nx s a = 69 then
    let b := if nx s (a + 1) = 43 ∨ nx s (a + 1) = 45 then a + 2 else a + 1
    (dg s b, dg s b != b)
  else (a, true)
def numF (s : ByteArray) (a : Nat) : Nat × Bool :=
  if nx s a = 46 then (if dg s (a + 1) = a + 1 then (a + 1, false) else numX s (dg s (a + 1))) else numX s a
def num (s : ByteArray) (k : Nat) : Nat × Bool :=
  let a := if nx s k = 45 then k + 1 else k
  if nx s a = 48 then numF s (a + 1) else if dg s a = a then (a, false) else numF s (dg s a)

/-- a hexadecimal digit -/
def hexd (c : Nat) : Option Nat :=
  if 48 ≤ c ∧ c ≤ 57 then some (c - 48) else if 97 ≤ c ∧ c ≤ 102 then some (c - 87) else if 65 ≤ c ∧ c ≤ 70 then some (c - 55) else none
/-- n digits from k on: the number, or where there is none -/
def hx (s : ByteArray) : Nat → Nat → Nat → Except Nat Nat
  | 0, _, x => .ok x
  | n + 1, k, x => match hexd (nx s k) with
    | none => .error k
    | some d => hx s n (k + 1) (16 * x + d)

/-- the second half of a code point, if its escape comes at k -/
def low (s : ByteArray) (k : Nat) : Option Nat :=
  if nx s k = 92 ∧ nx s (k + 1) = 117 then
    match hx s 4 (k + 2) 0 with
    | .ok y => if 56320 ≤ y ∧ y ≤ 57343 then some y else none
    | .error _ => none
  else none

/-- what a letter behind a backslash stands for -/
def short (c : Nat) : Option Nat :=
  if c = 34 ∨ c = 92 ∨ c = 47 then some c else if c = 98 then some 8 else if c = 116 then some 9 else if c = 110 then some 10 else if c = 102 then some 12 else if c = 114 then some 13 else none

/-- an escape that begins at k: the code point, and where it ends -/
def esc (s : ByteArray) (k : Nat) : R (Nat × Nat) :=
  match short (nx s (k + 1)) with
  | some x => .ok (x, k + 2)
  | none =>
    if nx s (k + 1) = 117 then
      match hx s 4 (k + 2) 0 with
      | .error p => .error (wrong s p)
      | .ok x =>
        if x < 55296 ∨ 57343 < x then .ok (x, k + 6)
        else match low s (k + 6) with
          | some y => if x < 56320 then .ok ((x - 55296) * 1024 + (y - 56320) + 65536, k + 12) else .error (k, 145)
          | none => .error (k, 145)
    else .error (wrong s (k + 1))

/-- the bytes of a code point -/
def enc (c : Nat) : List UInt8 :=
  if c < 128 then [UInt8.ofNat c]
  else if c < 2048 then [UInt8.ofNat (192 + c / 64), UInt8.ofNat (128 + c % 64)]
  else if c < 65536 then [UInt8.ofNat (224 + c / 4096), UInt8.ofNat (128 + c / 64 % 64), UInt8.ofNat (128 + c % 64)]
  else [UInt8.ofNat (240 + c / 262144), UInt8.ofNat (128 + c / 4096 % 64), UInt8.ofNat (128 + c / 64 % 64), UInt8.ofNat (128 + c % 64)]

/-- a string from behind its first quote on: its bytes, and where it ends -/
def txF (s : ByteArray) : Nat → Nat → List UInt8 → R (List UInt8 × Nat)
  | 0, k, _ => .error (wrong s k)
  | n + 1, k, out =>
    if nx s k < 32 then .error (wrong s k)
    else if nx s k = 34 then .ok (out, k + 1)
    else if nx s k = 92 then
      match esc s k with
      | .error e => .error e
      | .ok (x, j) => txF s n j (out ++ enc x)
    else txF s n (k + 1) (out ++ [UInt8.ofNat (nx s k)])
def tx (s : ByteArray) (k : Nat) : R (List UInt8 × Nat) := txF s (s.size + 1 - (k + 1)) (k + 1) []

/-- a word -/
def wd (s : ByteArray) : List Nat → Nat → R Nat
  | [], k => .ok k
  | c :: l, k => if nx s k = c then wd s l (k + 1) else .error (wrong s k)

/-- what stands at the end of an array, of an object -/
def ends (obj : Bool) : Nat := if obj then 125 else 93

/-- the members of an array, of an object, from one on: `val` reads one item; k is where the member begins -/
def lsF (s : ByteArray) (obj : Bool) (val : Nat → Nat → R (V × Nat × Nat)) : Nat → Nat → Nat → List ByteArray → List V → R (V × Nat × Nat)
  | 0, k, _, _, _ => .error (wrong s k)
  | n + 1, k, b, ns, xs =>
    match (if obj then
        let a := sp s k
        if nx s a ≠ 34 then .error (wrong s a)
        else match tx s a with
          | .error e => .error e
          | .ok (t, c) =>
            if ns.contains ⟨t.toArray⟩ then .error (a, 141)
            else if nx s (sp s c) = 58 then .ok (ns ++ [⟨t.toArray⟩], sp s c + 1) else .error (wrong s (sp s c))
      else .ok (ns, k) : R (List ByteArray × Nat)) with
    | .error e => .error e
    | .ok (ns, k) =>
      match val k b with
      | .error e => .error e
      | .ok (x, k, b) =>
        let a := sp s k
        if nx s a = ends obj then .ok (.mk (if obj then 7 else 6) ⟨#[]⟩ ns (xs ++ [x]), a + 1, b)
        else if nx s a = 44 then lsF s obj val n (a + 1) b ns (xs ++ [x])
        else .error (wrong s a)

/-- what is in an array, in an object, from k on -/
def ls (s : ByteArray) (obj : Bool) (val : Nat → Nat → R (V × Nat × Nat)) (k b : Nat) : R (V × Nat × Nat) :=
  let a := sp s k
  if nx s a = ends obj then .ok (.mk (if obj then 7 else 6) ⟨#[]⟩ [] [], a + 1, b)
  else lsF s obj val (s.size + 1 - a) a b [] []

/-- the first byte of a value -/
def begins (c : Nat) : Bool := c == 91 || c == 123 || c == 34 || c == 45 || isDg c || c == 110 || c == 102 || c == 116

/-- a value at k, where d arrays and objects more may be opened, and b values have begun -/
def val (s : ByteArray) : Nat → Nat → Nat → R (V × Nat × Nat)
  | d, k, b =>
    let a := sp s k
    let c := nx s a
    if begins c = false then .error (wrong s a)
    else if b = 4096 then .error (a, 5)
    else if c = 91 ∨ c = 123 then
      match d with
      | 0 => .error (a, 140)
      | d + 1 => ls s (c == 123) (val s d) (a + 1) (b + 1)
    else if c = 34 then
      match tx s a with
      | .error e => .error e
      | .ok (t, j) => .ok (.mk 5 ⟨t.toArray⟩ [] [], j, b + 1)
    else if c = 110 then (wd s [110, 117, 108, 108] a).map fun j => (.mk 1 ⟨#[]⟩ [] [], j, b + 1)
    else if c = 102 then (wd s [102, 97, 108, 115, 101] a).map fun j => (.mk 2 ⟨#[]⟩ [] [], j, b + 1)
    else if c = 116 then (wd s [116, 114, 117, 101] a).map fun j => (.mk 3 ⟨#[]⟩ [] [], j, b + 1)
    else if (num s a).2 then .ok (.mk 4 (s.extract a (num s a).1) [] [], (num s a).1, b + 1) else .error (wrong s (num s a).1)

/-- how many bytes the code point has that begins at k; 0 if none does -/
def rune (s : ByteArray) (k : Nat) : Nat :=
  let c := nx s k
  let c1 := nx s (k + 1)
  let c2 := nx s (k + 2)
  let c3 := nx s (k + 3)
  let tail (x : Nat) : Bool := 128 ≤ x && x ≤ 191
  if c < 128 then 1
  else if 194 ≤ c ∧ c ≤ 223 then (if tail c1 then 2 else 0)
  else if 224 ≤ c ∧ c ≤ 239 then
    (if tail c1 && tail c2 && (c != 224 || 160 ≤ c1) && (c != 237 || c1 < 160) then 3 else 0)
  else if 240 ≤ c ∧ c ≤ 244 then
    (if tail c1 && tail c2 && tail c3 && (c != 240 || 144 ≤ c1) && (c != 244 || c1 < 144) then 4 else 0)
  else 0
/-- the first byte that belongs to no code point -/
def badF (s : ByteArray) : Nat → Nat → Option Nat
  | 0, _ => none
  | n + 1, k => if s.size ≤ k then none else if rune s k = 0 then some k else badF s n (k + rune s k)
def bad8 (s : ByteArray) : Option Nat := badF s s.size 0

/-- a text's value; or the place and the number of what is wrong -/
def read (s : ByteArray) : R V :=
  if 65536 < s.size then .error (0, 3)
  else match bad8 s with
    | some k => .error (k, 142)
    | none => match val s 16 0 0 with
      | .error e => .error e
      | .ok (v, k, _) => if sp s k < s.size then .error (wrong s (sp s k)) else .ok v

end Go.Proofs.YtmmijebekipdeaaDoor.Js
