/- JOINED TEXTS: Abs2. -/
import Derived.Test.YtegnablmooijmaaDoorJ01
set_option linter.unusedSimpArgs false
set_option linter.unusedVariables false
/- THE CALCULUS, WHAT ITS WORDS MEAN IN THE MODEL'S WORLD, AND HOW MEANINGS LAST. -/
open Go
namespace Dem

/-- the stamps of a map's entries -/
def stampsOk (es : Array MapEntry) (clock : Nat) : Prop := es.all (·.born < clock) = true ∧ (es.toList.map (·.born)).Nodup

mutual
def RepD (w : World) (ok : Nat → Prop) : D → Value → Prop
  | .bool b, v => v = .bool b
  | .int k n, v => v = .int k n
  | .str s, v => v = .string ⟨s.toArray⟩
  | .sl es, v => ∃ base cap, v = .slice base es.length cap ∧ es.length ≤ cap ∧
      (es = [] ∨ ∃ blk off sz, base = some ⟨blk, off, none⟩ ∧ ok blk ∧ RepRows w ok blk sz es off)
  | .fn f, v => v = .func (.func f) #[] #[]
  | .mp ag es, v => ∃ blk ms clock, v = .map (some blk) ∧ ok blk ∧ w.heap[blk]? = some (.map ms clock) ∧ stampsOk ms clock ∧ RepEnts w ok ag es ms.toList
def RepRow (w : World) (ok : Nat → Prop) (blk : Nat) : List D → Nat → Prop
  | [], _ => True
  | x :: xs, off => (∃ u, w.cell? ⟨blk, off, none⟩ = some u ∧ RepD w ok x u) ∧ RepRow w ok blk xs (off + 1)
def RepRows (w : World) (ok : Nat → Prop) (blk sz : Nat) : List (List D) → Nat → Prop
  | [], _ => True
  | r :: rs, off => r.length = sz ∧ RepRow w ok blk r off ∧ RepRows w ok blk sz rs (off + sz)
def RepEnts (w : World) (ok : Nat → Prop) (ag : Bool) : List (List D) → List MapEntry → Prop
  | [], ms => ms = []
  | r :: rs, ms => ∃ m ms', ms = m :: ms' ∧ RepEnt w ok ag r m ∧ RepEnts w ok ag rs ms'
def RepEnt (w : World) (ok : Nat → Prop) (ag : Bool) : List D → MapEntry → Prop
  | [], _ => False
  | k :: ds, m => RepD w ok k m.key ∧ ∃ cs, m.val = (bif ag then .agg ⟨cs⟩ else cs.headD undef) ∧ (ag = false → cs.length = 1) ∧ RepDs w ok ds cs
def RepDs (w : World) (ok : Nat → Prop) : List D → List Value → Prop
  | [], vs => vs = []
  | d :: ds, vs => ∃ v r, vs = v :: r ∧ RepD w ok d v ∧ RepDs w ok ds r
end

/-- the same cells at the same blocks -/
def Keeps (w w' : World) (ok ok' : Nat → Prop) : Prop := ∀ blk, ok blk → ok' blk ∧ w'.heap[blk]? = w.heap[blk]?
theorem cell?_of_heap {w w' : World} {blk : Nat} (h : w'.heap[blk]? = w.heap[blk]?) (off : Nat) (sp : Option Nat) : w'.cell? ⟨blk, off, sp⟩ = w.cell? ⟨blk, off, sp⟩ := by
  simp only [World.cell?, h]
theorem Keeps.cell {w w' : World} {ok ok' : Nat → Prop} (h : Keeps w w' ok ok') {blk : Nat} (hb : ok blk) (off : Nat) : w'.cell? ⟨blk, off, none⟩ = w.cell? ⟨blk, off, none⟩ := cell?_of_heap (h blk hb).2 off _

mutual
theorem RepD.mono {w w' : World} {ok ok' : Nat → Prop} (h : Keeps w w' ok ok') : ∀ (x : D) (v : Value), RepD w ok x v → RepD w' ok' x v
  | .bool b, v, hv => by simpa [RepD] using hv
  | .int k n, v, hv => by simpa [RepD] using hv
  | .str s, v, hv => by simpa [RepD] using hv
  | .sl es, v, hv => by
    simp only [RepD] at hv ⊢
    obtain ⟨base, cap, h1, h2, h3⟩ := hv
    refine ⟨base, cap, h1, h2, h3.imp id ?_⟩
    rintro ⟨blk, off, sz, e1, e2, e3⟩
    exact ⟨blk, off, sz, e1, (h blk e2).1, RepRows.mono h blk sz (h.cell e2) es off e3⟩
  | .fn f, v, hv => by simpa [RepD] using hv
  | .mp ag es, v, hv => by
    simp only [RepD] at hv ⊢
    obtain ⟨blk, ms, clock, h1, h2, h3, h4, h5⟩ := hv
    exact ⟨blk, ms, clock, h1, (h blk h2).1, by rw [(h blk h2).2]; exact h3, h4, RepEnts.mono h ag es _ h5⟩
theorem RepRow.mono {w w' : World} {ok ok' : Nat → Prop} (h : Keeps w w' ok ok') (blk : Nat) (hb : ∀ off, w'.cell? ⟨blk, off, none⟩ = w.cell? ⟨blk, off, none⟩) : ∀ (xs : List D) (off : Nat), RepRow w ok blk xs off → RepRow w' ok' blk xs off
  | [], _, _ => by simp [RepRow]
  | x :: xs, off, hv => by
    simp only [RepRow] at hv ⊢
    obtain ⟨⟨u, h1, h2⟩, h3⟩ := hv
    exact ⟨⟨u, by rw [hb]; exact h1, RepD.mono h x u h2⟩, RepRow.mono h blk hb xs _ h3⟩
theorem RepRows.mono {w w' : World} {ok ok' : Nat → Prop} (h : Keeps w w' ok ok') (blk sz : Nat) (hb : ∀ off, w'.cell? ⟨blk, off, none⟩ = w.cell? ⟨blk, off, none⟩) : ∀ (rs : List (List D)) (off : Nat), RepRows w ok blk sz rs off → RepRows w' ok' blk sz rs off
  | [], _, _ => by simp [RepRows]
  | r :: rs, off, hv => by
    simp only [RepRows] at hv ⊢
    exact ⟨hv.1, RepRow.mono h blk hb r _ hv.2.1, RepRows.mono h blk sz hb rs _ hv.2.2⟩
theorem RepEnts.mono {w w' : World} {ok ok' : Nat → Prop} (h : Keeps w w' ok ok') (ag : Bool) : ∀ (rs : List (List D)) (ms : List MapEntry), RepEnts w ok ag rs ms → RepEnts w' ok' ag rs ms
  | [], _, hv => by simpa [RepEnts] using hv
  | r :: rs, ms, hv => by
    simp only [RepEnts] at hv ⊢
    obtain ⟨m, ms', h1, h2, h3⟩ := hv
    exact ⟨m, ms', h1, RepEnt.mono h ag r m h2, RepEnts.mono h ag rs ms' h3⟩
theorem RepEnt.mono {w w' : World} {ok ok' : Nat → Prop} (h : Keeps w w' ok ok') (ag : Bool) : ∀ (r : List D) (m : MapEntry), RepEnt w ok ag r m → RepEnt w' ok' ag r m
  | [], _, hv => by simp [RepEnt] at hv
  | k :: ds, m, hv => by
    simp only [RepEnt] at hv ⊢
    obtain ⟨h1, cs, h2, h3, h4⟩ := hv
    exact ⟨RepD.mono h k _ h1, cs, h2, h3, RepDs.mono h ds cs h4⟩
theorem RepDs.mono {w w' : World} {ok ok' : Nat → Prop} (h : Keeps w w' ok ok') : ∀ (ds : List D) (vs : List Value), RepDs w ok ds vs → RepDs w' ok' ds vs
  | [], _, hv => by simpa [RepDs] using hv
  | d :: ds, vs, hv => by
    simp only [RepDs] at hv ⊢
    obtain ⟨v, r, h1, h2, h3⟩ := hv
    exact ⟨v, r, h1, RepD.mono h d v h2, RepDs.mono h ds r h3⟩
end

/-- which blocks immutable data may lie in -/
def okp (β : Nat → Nat) (bx : List Box) (w : World) (X : Nat → Prop) (blk : Nat) : Prop :=
  blk < w.heap.size ∧ ¬ X blk ∧ ∀ i b, bx[i]? = some b → b.live = true → β i ≠ blk

mutual
def RepA (β : Nat → Nat) (bx : List Box) (w : World) (ok : Nat → Prop) : AV → Value → Prop
  | .any, _ => True
  | .d x, v => RepD w ok x v
  | .k c, v => v = c.val
  | .agg cs, v => ∃ vs, v = .agg ⟨vs⟩ ∧ RepAs β bx w ok cs vs
  | .tup cs, v => ∃ vs, v = .tuple ⟨vs⟩ ∧ RepAs β bx w ok cs vs
  | .ptr b off, v => v = .pointer (some ⟨β b, off, none⟩) ∧ bornAt bx b
  | .rp b sz i j, v => v = .pointer (some ⟨β b, i * sz + j, none⟩) ∧ bornAt bx b
  | .ep ds, v => ∃ blk off, v = .pointer (some ⟨blk, off, none⟩) ∧ ok blk ∧ RepRow w ok blk ds off
  | .ow b sz n, v => bornAt bx b ∧ ((n = 0 ∧ ∃ base, v = .slice base 0 0) ∨
      (n ≠ 0 ∧ ∃ cap c e f, v = .slice (some ⟨β b, 0, none⟩) n cap ∧ n ≤ cap ∧ w.heap[β b]? = some (.cells c e f) ∧ cap * sz ≤ c.size))
  | .cl es, v => ∃ base, v = .slice base es.length es.length ∧ (es = [] ∨ ∃ blk off sz, base = some ⟨blk, off, none⟩ ∧ ok blk ∧ RepRows w ok blk sz es off)
  | .fn f caps, v => ∃ vs, v = .func (.func f) #[] ⟨vs⟩ ∧ RepAs β bx w ok caps vs
  | .ifc t x, v => ∃ u, v = .iface t u ∧ RepA β bx w ok x u
  | .cond p x, v => (p = true → RepA β bx w ok x v) ∧ (p = false → v = undef)
  | .vw b sz off n c ex, v => bornAt bx b ∧ ∃ base cap cs e f, v = .slice base n cap ∧ n ≤ cap ∧ c ≤ cap ∧ (ex = true → cap = c) ∧ (cap = 0 ∨ base = some ⟨β b, off * sz, none⟩ ∧ w.heap[β b]? = some (.cells cs e f) ∧ (off + cap) * sz ≤ cs.size)
  | .mpb b, v => v = .map (some (β b)) ∧ bornAt bx b
def RepAs (β : Nat → Nat) (bx : List Box) (w : World) (ok : Nat → Prop) : List AV → List Value → Prop
  | [], vs => vs = []
  | x :: xs, vs => ∃ u us, vs = u :: us ∧ RepA β bx w ok x u ∧ RepAs β bx w ok xs us
end

/-- what a box is in the world -/
def BoxOk (β : Nat → Nat) (bx : List Box) (w : World) (ok : Nat → Prop) : Box → Nat → Prop
  | .var cs, blk => ∃ c e, w.heap[blk]? = some (.cells c e (0, 0)) ∧ RepAs β bx w ok cs c.toList
  | .row sz es, blk => es = [] ∨ ∃ c e, w.heap[blk]? = some (.cells c e (0, 0)) ∧ RepRows w ok blk sz es 0
  | .imm sz es, blk => es = [] ∨ (ok blk ∧ RepRows w ok blk sz es 0)
  | .it s pos, blk => w.heap[blk]? = some (.stringIter ⟨s.toArray⟩ pos)
  | .mp ag es, blk => ∃ ms clock, w.heap[blk]? = some (.map ms clock) ∧ stampsOk ms clock ∧ RepEnts w ok ag es ms.toList
  | .dead, _ => True
  | .unborn, _ => True

structure Ctx (G : Nat → Option (List D)) (β : Nat → Nat) (bx : List Box) (w : World) (X : Nat → Prop) : Prop where
  xs : ∀ blk, X blk → blk < w.heap.size
  glob : ∀ g ds, G g = some ds → okp β bx w X g ∧ RepRow w (okp β bx w X) g ds 0
  inj : ∀ i j bi bj, bx[i]? = some bi → bx[j]? = some bj → bi.live = true → bj.live = true → β i = β j → i = j
  box : ∀ i b, bx[i]? = some b → BoxOk β bx w (okp β bx w X) b (β i)
  apart : ∀ i b, bx[i]? = some b → b.live = true → ¬ X (β i)

/-- from one state of boxes and world to a later one -/
structure Ext (β : Nat → Nat) (bx : List Box) (w : World) (β' : Nat → Nat) (bx' : List Box) (w' : World) : Prop where
  os : w'.os = w.os
  tape : w'.tape = w.tape
  output : w'.output = w.output
  size : w.heap.size ≤ w'.heap.size
  block : ∀ k, k < w.heap.size → (∀ i b, bx[i]? = some b → b.live = true → β i ≠ k) → w'.heap[k]? = w.heap[k]?
  shape : ∀ (k : Nat) (c : Array Value) (e : TypeId) (f : Nat × Nat), w.heap[k]? = some (.cells c e f) → ∃ c', w'.heap[k]? = some (.cells c' e f) ∧ c'.size = c.size
  born : ∀ i, bornAt bx i → β' i = β i ∧ bornAt bx' i
  live : ∀ i b, bx'[i]? = some b → b.live = true → w.heap.size ≤ β' i ∨ ∃ j b', bx[j]? = some b' ∧ b'.live = true ∧ β j = β' i

theorem Ext.refl (β : Nat → Nat) (bx : List Box) (w : World) : Ext β bx w β bx w :=
  ⟨rfl, rfl, rfl, Nat.le_refl _, fun _ _ _ => rfl, fun _ c _ _ h => ⟨c, h, rfl⟩, fun _ h => ⟨rfl, h⟩, fun i b h1 h2 => .inr ⟨i, b, h1, h2, rfl⟩⟩

theorem live_born {b : Box} (h : b.live = true) : b.born = true := by cases b <;> simp_all [Box.live, Box.born]

theorem Ext.trans {β β' β'' : Nat → Nat} {bx bx' bx'' : List Box} {w w' w'' : World} (h : Ext β bx w β' bx' w') (g : Ext β' bx' w' β'' bx'' w'') : Ext β bx w β'' bx'' w'' := by
  refine ⟨g.os.trans h.os, g.tape.trans h.tape, g.output.trans h.output, Nat.le_trans h.size g.size, ?_, ?_, ?_, ?_⟩
  · intro k hk hl
    rw [g.block k (Nat.lt_of_lt_of_le hk h.size), h.block k hk hl]
    intro i b hb hlv he
    rcases h.live i b hb hlv with h1 | ⟨j, b', h1, h2, h3⟩
    · omega
    · exact hl j b' h1 h2 (h3.trans he)
  · intro k c e f hk
    obtain ⟨c', h1, h2⟩ := h.shape k c e f hk
    obtain ⟨c'', h3, h4⟩ := g.shape k c' e f h1
    exact ⟨c'', h3, h4.trans h2⟩
  · intro i hi
    obtain ⟨h1, h2⟩ := h.born i hi
    obtain ⟨h3, h4⟩ := g.born i h2
    exact ⟨h3.trans h1, h4⟩
  · intro i b hb hlv
    rcases g.live i b hb hlv with h1 | ⟨j, b', h1, h2, h3⟩
    · exact .inl (Nat.le_trans h.size h1)
    · rcases h.live j b' h1 h2 with h4 | ⟨k, b'', h4, h5, h6⟩
      · exact .inl (by omega)
      · exact .inr ⟨k, b'', h4, h5, h6.trans h3⟩

theorem Ext.keeps {β β' : Nat → Nat} {bx bx' : List Box} {w w' : World} (h : Ext β bx w β' bx' w') (X : Nat → Prop) :
    Keeps w w' (okp β bx w X) (okp β' bx' w' X) := by
  rintro blk ⟨h1, h2, h3⟩
  refine ⟨⟨Nat.lt_of_lt_of_le h1 h.size, h2, ?_⟩, h.block blk h1 h3⟩
  intro i b hb hlv he
  rcases h.live i b hb hlv with h4 | ⟨j, b', h4, h5, h6⟩
  · omega
  · exact h3 j b' h4 h5 (h6.trans he)

/-- what makes a value mean the same later -/
structure Lasts (β : Nat → Nat) (bx : List Box) (w : World) (ok : Nat → Prop) (β' : Nat → Nat) (bx' : List Box) (w' : World) (ok' : Nat → Prop) : Prop where
  keeps : Keeps w w' ok ok'
  born : ∀ i, bornAt bx i → β' i = β i ∧ bornAt bx' i
  shape : ∀ (k : Nat) (c : Array Value) (e : TypeId) (f : Nat × Nat), w.heap[k]? = some (.cells c e f) → ∃ c', w'.heap[k]? = some (.cells c' e f) ∧ c'.size = c.size

theorem Ext.lasts {β β' : Nat → Nat} {bx bx' : List Box} {w w' : World} (h : Ext β bx w β' bx' w') (X : Nat → Prop) :
    Lasts β bx w (okp β bx w X) β' bx' w' (okp β' bx' w' X) := ⟨h.keeps X, h.born, h.shape⟩

mutual
theorem RepA.mono {β β' : Nat → Nat} {bx bx' : List Box} {w w' : World} {ok ok' : Nat → Prop} (h : Lasts β bx w ok β' bx' w' ok') :
    ∀ (x : AV) (v : Value), RepA β bx w ok x v → RepA β' bx' w' ok' x v
  | .any, _, _ => by simp [RepA]
  | .d x, v, hv => by simp only [RepA] at hv ⊢; exact RepD.mono h.keeps x v hv
  | .k c, v, hv => by simpa [RepA] using hv
  | .agg cs, v, hv => by simp only [RepA] at hv ⊢; obtain ⟨vs, e, g⟩ := hv; exact ⟨vs, e, RepAs.mono h cs vs g⟩
  | .tup cs, v, hv => by simp only [RepA] at hv ⊢; obtain ⟨vs, e, g⟩ := hv; exact ⟨vs, e, RepAs.mono h cs vs g⟩
  | .ptr b off, v, hv => by simp only [RepA] at hv ⊢; obtain ⟨e, g⟩ := hv; exact ⟨by rw [(h.born b g).1]; exact e, (h.born b g).2⟩
  | .rp b sz i j, v, hv => by simp only [RepA] at hv ⊢; obtain ⟨e, g⟩ := hv; exact ⟨by rw [(h.born b g).1]; exact e, (h.born b g).2⟩
  | .ep ds, v, hv => by
    simp only [RepA] at hv ⊢
    obtain ⟨blk, off, e, g1, g2⟩ := hv
    exact ⟨blk, off, e, (h.keeps blk g1).1, RepRow.mono h.keeps blk (h.keeps.cell g1) ds off g2⟩
  | .ow b sz n, v, hv => by
    simp only [RepA] at hv ⊢
    obtain ⟨g, hv⟩ := hv
    refine ⟨(h.born b g).2, hv.imp id ?_⟩
    rintro ⟨hn, cap, c, e, f, e1, e2, e3, e4⟩
    obtain ⟨c', e5, e6⟩ := h.shape _ _ _ _ e3
    rw [(h.born b g).1]
    exact ⟨hn, cap, c', e, f, e1, e2, e5, by rw [e6]; exact e4⟩
  | .cl es, v, hv => by
    simp only [RepA] at hv ⊢
    obtain ⟨base, e, g⟩ := hv
    refine ⟨base, e, g.imp id ?_⟩
    rintro ⟨blk, off, sz, e1, e2, e3⟩
    exact ⟨blk, off, sz, e1, (h.keeps blk e2).1, RepRows.mono h.keeps blk sz (h.keeps.cell e2) es off e3⟩
  | .fn f caps, v, hv => by simp only [RepA] at hv ⊢; obtain ⟨vs, e, g⟩ := hv; exact ⟨vs, e, RepAs.mono h caps vs g⟩
  | .ifc t x, v, hv => by simp only [RepA] at hv ⊢; obtain ⟨u, e, g⟩ := hv; exact ⟨u, e, RepA.mono h x u g⟩
  | .cond p x, v, hv => by simp only [RepA] at hv ⊢; exact ⟨fun hp => RepA.mono h x v (hv.1 hp), hv.2⟩
  | .vw b sz off n c ex, v, hv => by
    simp only [RepA] at hv ⊢
    obtain ⟨g, base, cap, cs, e, f, e1, e2, e3, e4, e5⟩ := hv
    rcases e5 with e5 | ⟨e5, e6, e7⟩
    · exact ⟨(h.born b g).2, base, cap, cs, e, f, e1, e2, e3, e4, .inl e5⟩
    obtain ⟨c', k5, k6⟩ := h.shape _ _ _ _ e6
    rw [(h.born b g).1]
    exact ⟨(h.born b g).2, base, cap, c', e, f, e1, e2, e3, e4, .inr ⟨e5, k5, by rw [k6]; exact e7⟩⟩
  | .mpb b, v, hv => by simp only [RepA] at hv ⊢; obtain ⟨e, g⟩ := hv; exact ⟨by rw [(h.born b g).1]; exact e, (h.born b g).2⟩
theorem RepAs.mono {β β' : Nat → Nat} {bx bx' : List Box} {w w' : World} {ok ok' : Nat → Prop} (h : Lasts β bx w ok β' bx' w' ok') :
    ∀ (xs : List AV) (vs : List Value), RepAs β bx w ok xs vs → RepAs β' bx' w' ok' xs vs
  | [], vs, hv => by simpa [RepAs] using hv
  | x :: xs, vs, hv => by
    simp only [RepAs] at hv ⊢
    obtain ⟨u, us, e, g1, g2⟩ := hv
    exact ⟨u, us, e, RepA.mono h x u g1, RepAs.mono h xs us g2⟩
end

theorem RepAs.length {β : Nat → Nat} {bx : List Box} {w : World} {ok : Nat → Prop} : ∀ {xs : List AV} {vs : List Value}, RepAs β bx w ok xs vs → vs.length = xs.length
  | [], vs, h => by simp only [RepAs] at h; simp [h]
  | x :: xs, vs, h => by simp only [RepAs] at h; obtain ⟨u, us, rfl, _, g⟩ := h; simp [RepAs.length g]

theorem RepAs.get {β : Nat → Nat} {bx : List Box} {w : World} {ok : Nat → Prop} : ∀ {xs : List AV} {vs : List Value} (i : Nat) (x : AV), RepAs β bx w ok xs vs → xs[i]? = some x → ∃ v, vs[i]? = some v ∧ RepA β bx w ok x v
  | [], _, i, x, _, hx => by simp at hx
  | y :: ys, vs, i, x, h, hx => by
    simp only [RepAs] at h
    obtain ⟨u, us, rfl, g1, g2⟩ := h
    cases i with
    | zero => simp at hx; subst hx; exact ⟨u, by simp, g1⟩
    | succ i => simp at hx; obtain ⟨v, h1, h2⟩ := RepAs.get i x g2 hx; exact ⟨v, by simpa using h1, h2⟩

theorem RepAs.drop {β : Nat → Nat} {bx : List Box} {w : World} {ok : Nat → Prop} : ∀ (n : Nat) {xs : List AV} {vs : List Value}, RepAs β bx w ok xs vs → RepAs β bx w ok (xs.drop n) (vs.drop n)
  | 0, xs, vs, h => by simpa using h
  | n + 1, [], vs, h => by simp only [RepAs] at h; subst h; simp [RepAs]
  | n + 1, x :: xs, vs, h => by
    simp only [RepAs] at h
    obtain ⟨u, us, rfl, _, g2⟩ := h
    simpa using RepAs.drop n g2

theorem RepAs.take {β : Nat → Nat} {bx : List Box} {w : World} {ok : Nat → Prop} : ∀ (n : Nat) {xs : List AV} {vs : List Value}, RepAs β bx w ok xs vs → RepAs β bx w ok (xs.take n) (vs.take n)
  | 0, xs, vs, h => by simp [RepAs]
  | n + 1, [], vs, h => by simp only [RepAs] at h; subst h; simp [RepAs]
  | n + 1, x :: xs, vs, h => by
    simp only [RepAs] at h
    obtain ⟨u, us, rfl, g1, g2⟩ := h
    simp only [List.take_succ_cons, RepAs]
    exact ⟨u, _, rfl, g1, RepAs.take n g2⟩

theorem RepAs.append {β : Nat → Nat} {bx : List Box} {w : World} {ok : Nat → Prop} : ∀ {xs ys : List AV} {vs us : List Value}, RepAs β bx w ok xs vs → RepAs β bx w ok ys us → RepAs β bx w ok (xs ++ ys) (vs ++ us)
  | [], ys, vs, us, h, g => by simp only [RepAs] at h; subst h; simpa using g
  | x :: xs, ys, vs, us, h, g => by
    simp only [RepAs] at h
    obtain ⟨u, us', rfl, g1, g2⟩ := h
    simp only [List.cons_append, RepAs]
    exact ⟨u, _, rfl, g1, RepAs.append g2 g⟩

def spliceV : List Value → Nat → List Value → List Value
  | cs, _, [] => cs
  | [], _, _ :: _ => []
  | _ :: cs, 0, v :: vs => v :: spliceV cs 0 vs
  | c :: cs, n + 1, v :: vs => c :: spliceV cs n (v :: vs)

theorem RepAs.splice {β : Nat → Nat} {bx : List Box} {w : World} {ok : Nat → Prop} : ∀ {xs : List AV} {vs : List Value} (n : Nat) {ys : List AV} {us : List Value}, RepAs β bx w ok xs vs → RepAs β bx w ok ys us →
    RepAs β bx w ok (Dem.splice xs n ys) (spliceV vs n us)
  | xs, vs, n, [], us, h, g => by
    simp only [RepAs] at g; subst g
    cases xs <;> cases vs <;> simpa [Dem.splice, spliceV] using h
  | [], vs, n, y :: ys, us, h, g => by
    simp only [RepAs] at h g; obtain ⟨u, us', rfl, _, _⟩ := g; subst h
    simp [Dem.splice, spliceV, RepAs]
  | x :: xs, vs, 0, y :: ys, us, h, g => by
    simp only [RepAs] at h g
    obtain ⟨u, us', rfl, g1, g2⟩ := g
    obtain ⟨v, vs', rfl, h1, h2⟩ := h
    simp only [Dem.splice, spliceV, RepAs]
    exact ⟨u, _, rfl, g1, RepAs.splice 0 h2 g2⟩
  | x :: xs, vs, n + 1, y :: ys, us, h, g => by
    simp only [RepAs] at h
    obtain ⟨v, vs', rfl, h1, h2⟩ := h
    have g0 := g
    simp only [RepAs] at g
    obtain ⟨u, us', rfl, g1, g2⟩ := g
    simp only [Dem.splice, spliceV, RepAs]
    exact ⟨v, _, rfl, h1, RepAs.splice n h2 g0⟩

theorem BoxOk.mono {β β' : Nat → Nat} {bx bx' : List Box} {w w' : World} {ok ok' : Nat → Prop} (h : Lasts β bx w ok β' bx' w' ok') {b : Box} {blk : Nat}
    (hl : b.live = true → w'.heap[blk]? = w.heap[blk]?) (hb : BoxOk β bx w ok b blk) : BoxOk β' bx' w' ok' b blk := by
  cases b with
  | var cs =>
    obtain ⟨c, e, h1, h2⟩ := hb
    exact ⟨c, e, by rw [hl rfl]; exact h1, RepAs.mono h _ _ h2⟩
  | row sz es =>
    cases es with
    | nil => exact .inl rfl
    | cons r rs =>
      rcases hb with hb | ⟨c, e, h1, h2⟩
      · exact .inl hb
      · exact .inr ⟨c, e, by rw [hl rfl]; exact h1, RepRows.mono h.keeps blk sz (fun off => cell?_of_heap (hl rfl) off _) _ _ h2⟩
  | imm sz es =>
    rcases hb with hb | ⟨h1, h2⟩
    · exact .inl hb
    · exact .inr ⟨(h.keeps blk h1).1, RepRows.mono h.keeps blk sz (h.keeps.cell h1) _ _ h2⟩
  | it s pos => simp only [BoxOk] at hb ⊢; rw [hl rfl]; exact hb
  | mp ag es =>
    obtain ⟨ms, clock, h1, h2, h3⟩ := hb
    exact ⟨ms, clock, by rw [hl rfl]; exact h1, h2, RepEnts.mono h.keeps ag es _ h3⟩
  | dead => trivial
  | unborn => trivial

theorem bornAt_of {bx : List Box} {i : Nat} {b : Box} (h : bx[i]? = some b) (hl : b.live = true) : bornAt bx i := ⟨b, h, live_born hl⟩

/-- the context lasts, if each box that has turned is right anew -/
theorem Ctx.step {G : Nat → Option (List D)} {β β' : Nat → Nat} {bx bx' : List Box} {w w' : World} {X : Nat → Prop} (cx : Ctx G β bx w X) (ex : Ext β bx w β' bx' w')
    (hbox : ∀ i b, bx'[i]? = some b → (bx[i]? = some b ∧ (b.live = true → w'.heap[β i]? = w.heap[β i]?)) ∨ BoxOk β' bx' w' (okp β' bx' w' X) b (β' i))
    (hinj : ∀ i j bi bj, bx'[i]? = some bi → bx'[j]? = some bj → bi.live = true → bj.live = true → β' i = β' j → i = j) : Ctx G β' bx' w' X := by
  refine ⟨fun blk hb => Nat.lt_of_lt_of_le (cx.xs blk hb) ex.size, ?_, hinj, ?_, ?_⟩
  · intro g ds hg
    obtain ⟨h1, h2⟩ := cx.glob g ds hg
    exact ⟨(ex.keeps X g h1).1, RepRow.mono (ex.keeps X) g ((ex.keeps X).cell h1) _ _ h2⟩
  · intro i b hb
    rcases hbox i b hb with ⟨h1, h2⟩ | h
    · by_cases hborn : b.born = true
      · rw [(ex.born i ⟨b, h1, hborn⟩).1]
        exact BoxOk.mono (ex.lasts X) h2 (cx.box i b h1)
      · cases b <;> simp_all [Box.born, BoxOk]
    · exact h
  · intro i b hb hl hX
    rcases ex.live i b hb hl with h | ⟨j, b', h1, h2, h3⟩
    · have := cx.xs _ hX; omega
    · exact cx.apart j b' h1 h2 (h3 ▸ hX)

/-- a world with the same memory -/
structure SameMem (w w' : World) : Prop where
  heap : w'.heap = w.heap
  os : w'.os = w.os
  tape : w'.tape = w.tape
  output : w'.output = w.output

theorem ext_same {β : Nat → Nat} {bx : List Box} {w w' : World} (h : SameMem w w') : Ext β bx w β bx w' :=
  ⟨h.os, h.tape, h.output, by rw [h.heap]; exact Nat.le_refl _, fun k _ _ => by rw [h.heap], fun k c e f hk => ⟨c, by rw [h.heap]; exact hk, rfl⟩, fun i hi => ⟨rfl, hi⟩, fun i b h1 h2 => .inr ⟨i, b, h1, h2, rfl⟩⟩

theorem ctx_same {G : Nat → Option (List D)} {β : Nat → Nat} {bx : List Box} {w w' : World} {X : Nat → Prop} (cx : Ctx G β bx w X) (h : SameMem w w') : Ctx G β bx w' X :=
  cx.step (ext_same h) (fun i b hb => .inl ⟨hb, fun _ => by rw [h.heap]⟩) cx.inj

theorem sameMem_drawn (w : World) : SameMem w { w with drawn := w.drawn + 1 } := ⟨rfl, rfl, rfl, rfl⟩

theorem push_old (w : World) (o : Obj) (k : Nat) (h : k < w.heap.size) : ({ w with heap := w.heap.push o } : World).heap[k]? = w.heap[k]? := by
  show (w.heap.push o)[k]? = _
  rw [Array.getElem?_push, if_neg (by omega)]
theorem push_new (w : World) (o : Obj) : ({ w with heap := w.heap.push o } : World).heap[w.heap.size]? = some o := by
  show (w.heap.push o)[w.heap.size]? = _
  simp
theorem heap_lt {w : World} {k : Nat} {o : Obj} (h : w.heap[k]? = some o) : k < w.heap.size := by
  rcases Nat.lt_or_ge k w.heap.size with h' | h'
  · exact h'
  · simp [Array.getElem?_eq_none h'] at h

/-- a new block without a box -/
theorem ext_push {β : Nat → Nat} {bx : List Box} {w : World} (o : Obj) : Ext β bx w β bx { w with heap := w.heap.push o } := by
  refine ⟨rfl, rfl, rfl, by simp, fun k hk _ => push_old w o k hk, fun k c e f hk => ⟨c, ?_, rfl⟩, fun i hi => ⟨rfl, hi⟩, fun i b h1 h2 => .inr ⟨i, b, h1, h2, rfl⟩⟩
  rw [push_old w o k (heap_lt hk)]; exact hk

theorem BoxOk.live_lt {β : Nat → Nat} {bx : List Box} {w : World} {ok : Nat → Prop} {b : Box} {blk : Nat} (h : BoxOk β bx w ok b blk) (hl : b.live = true) : blk < w.heap.size := by
  cases b with
  | var cs => obtain ⟨c, e, h1, _⟩ := h; exact heap_lt h1
  | row sz es =>
    cases es with
    | nil => simp [Box.live] at hl
    | cons r rs => rcases h with h | ⟨c, e, h1, _⟩; · simp at h
                   exact heap_lt h1
  | it s pos => exact heap_lt h
  | mp ag es => obtain ⟨ms, clock, h1, _⟩ := h; exact heap_lt h1
  | imm _ _ => simp [Box.live] at hl
  | dead => simp [Box.live] at hl
  | unborn => simp [Box.live] at hl

theorem ctx_push {G : Nat → Option (List D)} {β : Nat → Nat} {bx : List Box} {w : World} {X : Nat → Prop} (cx : Ctx G β bx w X) (o : Obj) : Ctx G β bx { w with heap := w.heap.push o } X :=
  cx.step (ext_push o) (fun i b hb => .inl ⟨hb, fun hl => push_old w o _ ((cx.box i b hb).live_lt hl)⟩) cx.inj

def upd (β : Nat → Nat) (i blk : Nat) : Nat → Nat := fun j => if j = i then blk else β j
theorem upd_same (β : Nat → Nat) (i blk : Nat) : upd β i blk i = blk := by simp [upd]
theorem upd_ne (β : Nat → Nat) {i j : Nat} (blk : Nat) (h : j ≠ i) : upd β i blk j = β j := by simp [upd, h]

theorem get_append_lt {bx : List Box} {B : Box} {i : Nat} {b : Box} (h : bx[i]? = some b) : (bx ++ [B])[i]? = some b := by
  have : i < bx.length := by rcases Nat.lt_or_ge i bx.length with h' | h'; · exact h'
                             · simp [List.getElem?_eq_none h'] at h
  rw [List.getElem?_append_left this]; exact h
theorem get_append_inv {bx : List Box} {B : Box} {i : Nat} {b : Box} (h : (bx ++ [B])[i]? = some b) : (bx[i]? = some b ∧ i < bx.length) ∨ (i = bx.length ∧ b = B) := by
  rcases Nat.lt_or_ge i bx.length with h' | h'
  · rw [List.getElem?_append_left h'] at h; exact .inl ⟨h, h'⟩
  · rw [List.getElem?_append_right h'] at h
    by_cases hi : i = bx.length
    · subst hi; simp at h; exact .inr ⟨rfl, h.symm⟩
    · simp [show i - bx.length ≠ 0 by omega] at h

/-- a new block, which is a new box's -/
theorem ext_pushbox {β : Nat → Nat} {bx : List Box} {w : World} (o : Obj) (B : Box) : Ext β bx w (upd β bx.length w.heap.size) (bx ++ [B]) { w with heap := w.heap.push o } := by
  refine ⟨rfl, rfl, rfl, by simp, fun k hk _ => push_old w o k hk, fun k c e f hk => ⟨c, ?_, rfl⟩, ?_, ?_⟩
  · rw [push_old w o k (heap_lt hk)]; exact hk
  · rintro i ⟨b, h1, h2⟩
    have : i < bx.length := by rcases Nat.lt_or_ge i bx.length with h' | h'; · exact h'
                               · simp [List.getElem?_eq_none h'] at h1
    exact ⟨upd_ne _ _ (by omega), b, get_append_lt h1, h2⟩
  · intro i b h1 h2
    rcases get_append_inv h1 with ⟨h3, h4⟩ | ⟨rfl, rfl⟩
    · exact .inr ⟨i, b, h3, h2, (upd_ne _ _ (by omega)).symm⟩
    · exact .inl (by rw [upd_same]; exact Nat.le_refl _)

theorem ctx_pushbox {G : Nat → Option (List D)} {β : Nat → Nat} {bx : List Box} {w : World} {X : Nat → Prop} (cx : Ctx G β bx w X) (o : Obj) (B : Box)
    (hB : BoxOk (upd β bx.length w.heap.size) (bx ++ [B]) { w with heap := w.heap.push o } (okp (upd β bx.length w.heap.size) (bx ++ [B]) { w with heap := w.heap.push o } X) B w.heap.size) :
    Ctx G (upd β bx.length w.heap.size) (bx ++ [B]) { w with heap := w.heap.push o } X := by
  refine cx.step (ext_pushbox o B) ?_ ?_
  · intro i b hb
    rcases get_append_inv hb with ⟨h3, h4⟩ | ⟨rfl, rfl⟩
    · exact .inl ⟨h3, fun hl => push_old w o _ ((cx.box i b h3).live_lt hl)⟩
    · exact .inr (by rw [upd_same]; exact hB)
  · intro i j bi bj h1 h2 l1 l2 he
    rcases get_append_inv h1 with ⟨h3, h4⟩ | ⟨rfl, rfl⟩ <;> rcases get_append_inv h2 with ⟨h5, h6⟩ | ⟨rfl, rfl⟩
    · rw [upd_ne _ _ (by omega), upd_ne _ _ (by omega)] at he
      exact cx.inj i j bi bj h3 h5 l1 l2 he
    · rw [upd_ne _ _ (by omega), upd_same] at he
      have := (cx.box i bi h3).live_lt l1; omega
    · rw [upd_same, upd_ne _ _ (by omega)] at he
      have := (cx.box j bj h5).live_lt l2; omega
    · rfl

end Dem
