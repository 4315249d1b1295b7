/- Small laws for the walks of this seat: bytes and 32-bit words as Lean's own UInt8, UInt32; slices that read as lists. No condition. -/
import Derived.Test.YtcblfkojkdaepaaGreatRows
import Derived.WalkKit
import Derived.WalkSpells
import Derived.WalkLawsBesides
import Derived.Deep.QuietTactic
import Derived.BigQuiet
import Derived.StillTailTactics
import Derived.Lib.Hide
import Derived.Laws.AppendOwnNone
import Derived.Great.BuildSlice
namespace Go.Proofs.YtcblfkojkdaepaaGreat
open Go.RowKit

/-- A byte, a word, as the model's integers. -/
def n8 (x : UInt8) : Int := x.toNat
def n32 (x : UInt32) : Int := x.toNat

theorem n8_lo (x : UInt8) : 0 ≤ n8 x := by unfold n8; omega
theorem n8_hi (x : UInt8) : n8 x ≤ 255 := by have := x.toNat_lt; unfold n8; omega
theorem n32_lo (x : UInt32) : 0 ≤ n32 x := by unfold n32; omega
theorem n32_hi (x : UInt32) : n32 x ≤ 4294967295 := by have := x.toNat_lt; unfold n32; omega
theorem n8_inj {x y : UInt8} : n8 x = n8 y ↔ x = y := by
  unfold n8; rw [← UInt8.toNat_inj]; omega
theorem n32_inj {x y : UInt32} : n32 x = n32 y ↔ x = y := by
  unfold n32; rw [← UInt32.toNat_inj]; omega

@[go_sem] theorem n8_beq (x y : UInt8) : (n8 x == n8 y) = (x == y) := by
  rw [Bool.eq_iff_iff]; simp [n8_inj]
@[go_sem] theorem n8_bne (x y : UInt8) : (n8 x != n8 y) = (x != y) := by simp [bne, n8_beq]
@[go_sem] theorem n32_beq (x y : UInt32) : (n32 x == n32 y) = (x == y) := by
  rw [Bool.eq_iff_iff]; simp [n32_inj]
@[go_sem] theorem n32_bne (x y : UInt32) : (n32 x != n32 y) = (x != y) := by simp [bne, n32_beq]

section
variable (x y : UInt32)
@[go_sem ↓] theorem op_add_u32 : Op.intArith .add .u32 (n32 x) (n32 y) = pure (.int .u32 (n32 (x + y))) := by
  simp only [Op.intArith, n32, IntKind.wrap_u32, UInt32.toNat_add]; congr 2
theorem ofInt_n32 : BitVec.ofInt IntKind.u32.bits (n32 x) = x.toBitVec := by
  apply BitVec.eq_of_toNat_eq
  have h := x.toNat_lt
  show (BitVec.ofInt 32 (x.toNat : Int)).toNat = _
  simp [BitVec.ofInt_natCast]; rfl
theorem back_u32 (r : BitVec 32) : (pure (.int .u32 (IntKind.u32.wrap (r.toNat : Int))) : Sem Value) = pure (.int .u32 (n32 (UInt32.ofBitVec r))) := by
  have h := r.isLt
  simp only [IntKind.wrap_u32, n32, UInt32.toNat_ofBitVec]
  congr 2
  omega
@[go_sem ↓] theorem op_xor_u32 : Op.intBits .xor .u32 (n32 x) (n32 y) = pure (.int .u32 (n32 (x ^^^ y))) := by
  simp only [Op.intBits, ofInt_n32]; exact back_u32 _
@[go_sem ↓] theorem op_and_u32 : Op.intBits .and .u32 (n32 x) (n32 y) = pure (.int .u32 (n32 (x &&& y))) := by
  simp only [Op.intBits, ofInt_n32]; exact back_u32 _
@[go_sem ↓] theorem op_or_u32 : Op.intBits .or .u32 (n32 x) (n32 y) = pure (.int .u32 (n32 (x ||| y))) := by
  simp only [Op.intBits, ofInt_n32]; exact back_u32 _
theorem op_xorL_u32 (n : Int) (h : n = n32 x) : Op.intBits .xor .u32 n (n32 y) = pure (.int .u32 (n32 (x ^^^ y))) := by rw [h, op_xor_u32]
theorem op_andL_u32 (n : Int) (h : n = n32 x) : Op.intBits .and .u32 n (n32 y) = pure (.int .u32 (n32 (x &&& y))) := by rw [h, op_and_u32]
theorem op_andR_u32 (n : Int) (h : n = n32 y) : Op.intBits .and .u32 (n32 x) n = pure (.int .u32 (n32 (x &&& y))) := by rw [h, op_and_u32]
@[go_sem ↓] theorem op_not_u32 : Op.unary .xor (.int .u32 (n32 x)) = pure (.int .u32 (n32 (~~~ x))) := by
  have e : Op.unary .xor (.int .u32 (n32 x)) = Op.intBits .xor .u32 (n32 4294967295) (n32 x) := rfl
  rw [e, op_xor_u32]
  have : (4294967295 : UInt32) ^^^ x = ~~~ x := by
    rw [← UInt32.toBitVec_inj]
    simp only [UInt32.toBitVec_xor, UInt32.toBitVec_not]
    have : (4294967295 : UInt32).toBitVec = BitVec.allOnes 32 := rfl
    rw [this, BitVec.allOnes_xor]
  rw [this]
@[go_sem ↓] theorem op_neg_u32 : Op.unary .neg (.int .u32 (n32 x)) = pure (.int .u32 (n32 (- x))) := by
  have h := x.toNat_lt
  simp only [Op.unary, Op.intArith, n32, IntKind.wrap_u32]
  congr 2
  rw [UInt32.toNat_neg]
  simp only [UInt32.size]
  omega
theorem shr_u32 (n : Nat) (h : n < 32) (yk : IntKind) (m : Int) (hm : m = n) : Op.shift .shr .u32 (n32 x) yk m = pure (.int .u32 (n32 (x >>> (UInt32.ofNat n)))) := by
  subst hm
  rw [shift_shr _ _ _ _ (by omega) (by simp [IntKind.bits]; omega)]
  congr 2
  simp only [n32, UInt32.toNat_shiftRight, Int.toNat_natCast, UInt32.toNat_ofNat']
  rw [Nat.mod_eq_of_lt (show n < 2 ^ 32 by omega), Nat.mod_eq_of_lt h, Nat.shiftRight_eq_div_pow]
  simp
theorem shl_u32 (n : Nat) (h : n < 32) (yk : IntKind) (m : Int) (hm : m = n) : Op.shift .shl .u32 (n32 x) yk m = pure (.int .u32 (n32 (x <<< (UInt32.ofNat n)))) := by
  subst hm
  rw [shift_shl _ _ _ _ (by omega) (by simp [IntKind.bits]; omega)]
  congr 2
  simp only [n32, UInt32.toNat_shiftLeft, Int.toNat_natCast, UInt32.toNat_ofNat', IntKind.wrap_u32]
  rw [Nat.mod_eq_of_lt (show n < 2 ^ 32 by omega), Nat.mod_eq_of_lt h, Nat.shiftLeft_eq]
  simp
end
@[go_sem ↓] theorem op_conv_8_32 (x : UInt8) : Conv.intToInt .u32 (n8 x) = pure (.int .u32 (n32 x.toUInt32)) := by
  have h := x.toNat_lt
  simp only [Conv.intToInt, n8, n32, IntKind.wrap_u32, UInt8.toNat_toUInt32]
  congr 2
  omega
@[go_sem ↓] theorem op_conv_32_8 (x : UInt32) : Conv.intToInt .u8 (n32 x) = pure (.int .u8 (n8 x.toUInt8)) := by
  simp only [Conv.intToInt, n8, n32, IntKind.wrap_u8, UInt32.toNat_toUInt8]
  congr 2

section
variable (x y : UInt32)
@[go_sem] theorem n32_add : (n32 x + n32 y) % 4294967296 = n32 (x + y) := by simp only [n32, UInt32.toNat_add]; omega
@[go_sem] theorem n32_addw : IntKind.u32.wrap (n32 x + n32 y) = n32 (x + y) := by rw [IntKind.wrap_u32, n32_add]
@[go_sem] theorem n32_xor : bits BinOp.xor .u32 (n32 x) (n32 y) = n32 (x ^^^ y) := by
  have h := op_xor_u32 x y; rw [intBits_xor] at h; injection h with h; injection h
@[go_sem] theorem n32_and : bits BinOp.and .u32 (n32 x) (n32 y) = n32 (x &&& y) := by
  have h := op_and_u32 x y; rw [intBits_and] at h; injection h with h; injection h
@[go_sem] theorem n32_or : bits BinOp.or .u32 (n32 x) (n32 y) = n32 (x ||| y) := by
  have h := op_or_u32 x y; rw [intBits_or] at h; injection h with h; injection h
@[go_sem] theorem n32_not : bits BinOp.xor .u32 IntKind.u32.max (n32 x) = n32 (~~~x) := by
  have h := op_not_u32 x
  have e : Op.unary .xor (.int .u32 (n32 x)) = Op.intBits .xor .u32 IntKind.u32.max (n32 x) := rfl
  rw [e, intBits_xor] at h; injection h with h; injection h
@[go_sem] theorem n32_neg : -n32 x % 4294967296 = n32 (-x) := by
  have h := x.toNat_lt
  simp only [n32, UInt32.toNat_neg, UInt32.size]; omega
@[go_sem] theorem n32_of8 (x : UInt8) : n8 x % 4294967296 = n32 x.toUInt32 := by
  have h := x.toNat_lt
  simp only [n8, n32, UInt8.toNat_toUInt32]; omega
@[go_sem] theorem n32_of8w (x : UInt8) : IntKind.u32.wrap (n8 x) = n32 x.toUInt32 := by rw [IntKind.wrap_u32, n32_of8]
@[go_sem] theorem n8_of32 : n32 x % 256 = n8 x.toUInt8 := by
  simp only [n8, n32, UInt32.toNat_toUInt8]; omega
@[go_sem] theorem n8_of32w : IntKind.u8.wrap (n32 x) = n8 x.toUInt8 := by rw [IntKind.wrap_u8, n8_of32]
end

theorem ret_eq {v v' : Value} (h : v = v') : Ending.returned v = .returned v' := by rw [h]

/-- A slice value reads as a list of one-cell values. -/
def RdV (w : World) (v : Value) (xs : List Value) : Prop :=
  (v = .slice none 0 0 ∧ xs = []) ∨
  ∃ (ad : Addr) (cap : Nat), v = .slice (some ad) xs.length cap ∧ xs.length ≤ cap ∧ ∀ j u, xs[j]? = some u → ∃ b off, ad = ⟨b, off, none⟩ ∧ w.cell? ⟨b, off + j, none⟩ = some u
def vB (x : UInt8) : Value := .int .u8 (n8 x)
def vW (x : UInt32) : Value := .int .u32 (n32 x)
/-- A slice value reads as bytes (words). -/
def RdB (w : World) (v : Value) (l : List UInt8) : Prop := RdV w v (l.map vB)
def RdW (w : World) (v : Value) (l : List UInt32) : Prop := RdV w v (l.map vW)

theorem RdV.below {w w' : World} {v : Value} {xs : List Value} (h : RdV w v xs) (hb : Below w.heap.size w w') : RdV w' v xs := by
  rcases h with h | ⟨ad, cap, rfl, hle, hc⟩
  · exact .inl h
  · refine .inr ⟨ad, cap, rfl, hle, fun j u hj => ?_⟩
    obtain ⟨b, off, ha, hcell⟩ := hc j u hj
    exact ⟨b, off, ha, (hb.cell (block_lt_of_cell hcell)).trans hcell⟩

theorem RdV.le {w : World} {a : Option Addr} {n cap : Nat} {xs : List Value} (h : RdV w (.slice a n cap) xs) : n = xs.length ∧ n ≤ cap := by
  rcases h with ⟨h, rfl⟩ | ⟨ad, cap', h, hle, _⟩
  · cases h; exact ⟨rfl, Nat.le_refl _⟩
  · cases h; exact ⟨rfl, hle⟩
theorem RdV.open {w : World} {v : Value} {xs : List Value} (h : RdV w v xs) : ∃ a cap, v = .slice a xs.length cap ∧ ∀ j u, xs[j]? = some u → ∃ b off, a = some ⟨b, off, none⟩ ∧ w.cell? ⟨b, off + j, none⟩ = some u := by
  rcases h with ⟨rfl, rfl⟩ | ⟨ad, cap, rfl, _, hc⟩
  · exact ⟨none, 0, rfl, fun j u hj => by simp at hj⟩
  · refine ⟨some ad, cap, rfl, fun j u hj => ?_⟩
    obtain ⟨b, off, rfl, h2⟩ := hc j u hj
    exact ⟨b, off, rfl, h2⟩
theorem RdB.open {w : World} {v : Value} {l : List UInt8} (h : RdB w v l) : ∃ a cap, v = .slice a l.length cap ∧ ∀ i (h : i < l.length), ∃ b off, a = some ⟨b, off, none⟩ ∧ w.cell? ⟨b, off + i, none⟩ = some (.int .u8 (n8 l[i])) := by
  obtain ⟨a, cap, rfl, hc⟩ := RdV.open h
  refine ⟨a, cap, by simp, fun i hi => ?_⟩
  exact hc i _ (by simp [hi, vB])
theorem RdW.open {w : World} {v : Value} {l : List UInt32} (h : RdW w v l) : ∃ a cap, v = .slice a l.length cap ∧ ∀ i (h : i < l.length), ∃ b off, a = some ⟨b, off, none⟩ ∧ w.cell? ⟨b, off + i, none⟩ = some (.int .u32 (n32 l[i])) := by
  obtain ⟨a, cap, rfl, hc⟩ := RdV.open h
  refine ⟨a, cap, by simp, fun i hi => ?_⟩
  exact hc i _ (by simp [hi, vW])

/-- What a row of the call's own holds, read as a slice. -/
theorem RdV_of_owns {w : World} {base : Nat} {e : TypeId} {v : Value} {n : Nat} {xs : List Value} (h : w.ownsRow base e 1 v n xs) : RdV w v xs := by
  obtain ⟨hl, h⟩ := h
  rcases h with ⟨rfl, rfl⟩ | ⟨g, cap, cur, rfl, hb, hg, hn, hm, hs, htake⟩
  · exact .inl ⟨rfl, by simpa using hl⟩
  · refine .inr ⟨⟨g, 0, none⟩, cap, by simp [hl], by simp [hl]; omega, fun j u hj => ⟨g, 0, rfl, ?_⟩⟩
    rw [cell_of_row w g _ cur e (0, 0) hg]
    rw [← htake, List.getElem?_take] at hj
    split at hj
    · simpa using hj
    · cases hj

theorem vB_one (l : List UInt8) : ∀ u ∈ l.map vB, u.oneCell' = true := by
  intro u hu
  obtain ⟨x, _, rfl⟩ := List.mem_map.1 hu
  rfl
theorem vW_one (l : List UInt32) : ∀ u ∈ l.map vW, u.oneCell' = true := by
  intro u hu
  obtain ⟨x, _, rfl⟩ := List.mem_map.1 hu
  rfl
theorem drewN_two (w : World) (n m : Nat) : ∃ k, (w.drewN n).drewN m = w.drewN k := ⟨n + m, by simp [World.drewN, Nat.add_assoc]⟩

theorem below_grown {w w' : World} {B : Nat} {row : Option Nat} (hg : w.grownBy w' row) (hB : B ≤ w.heap.size) (hr : ∀ k, row = some k → B ≤ k) : Below B w w' :=
  (Below.refl B w).grown hg hB hr

/-- 'append(v, s...)': v the call's own (or nil), s whatever reads as a list. -/
theorem wpList_app {P : Program} {w : World} {ops : Array Oper} {rest : List Oper} {o : Oper} {a : Act} {Q : Exit → Act → World → Prop} (hgd : o.guard = none) (s x : Operand) (t : TypeId)
    (ho : o.op = .call { callee := .builtin .append, args := #[s, x], argTypes := #[t, t] })
    (base : Nat) (e : TypeId) (i : TypeInfo) (z : Value) (bytes : Nat) (ht : P.underlying t = some (.slice e)) (hi : P.info? e = some i) (hz : i.zero = some z)
    (hsize : i.size = 1) (hby : i.bytes = bytes) (hzs : z.cells.size = 1)
    (v : Value) (n : Nat) (xs : List Value) (hs : a.eval s = v) (hown : w.ownsRow base e 1 v n xs)
    (y : Value) (news : List Value) (hx : a.eval x = y) (hy : RdV w y news)
    (h1 : ∀ u ∈ news, u.oneCell' = true) (hbytes : (n + news.length) * bytes ≤ 140737488355328) (hb0 : 0 < bytes) (hbase : base ≤ w.heap.size)
    (h : ∀ v' w', w'.ownsRow base e 1 v' (n + news.length) (xs ++ news) → w.grownBy w' v.ownBlock → wpList P ops Q rest (a.put o.dst v') w') : wpList P ops Q (o :: rest) a w := by
  have hle : n + news.length ≤ maxLen := by
    have := Nat.le_trans (Nat.le_mul_of_pos_right (n + news.length) hb0) hbytes
    simp only [maxLen]; omega
  rcases hy with ⟨rfl, rfl⟩ | ⟨ad, cap, rfl, _, hc⟩
  · refine wpList_append_own_none hgd s x t ho base e i 1 ht hi v n xs hs hown hx ?_
    exact h v w (by simpa using hown) ⟨rfl, rfl, rfl, Nat.le_refl _, fun _ _ _ => rfl⟩
  · refine wpList_append_own w hgd s x t ho base e i z 1 bytes ht hi hz hsize hby hzs (by decide) v n xs hs hown ad news.length cap news hx (by simp) ?_ h1 hle hbytes hbase ?_
    · intro j u hj
      obtain ⟨b, off, rfl, e2⟩ := hc j u hj
      have hadd : (⟨b, off, none⟩ : Addr).add j = ⟨b, off + j, none⟩ := by unfold Addr.add; split <;> simp_all
      rw [hadd]; exact e2
    · intro v' w' q1 q2 _
      exact h v' w' q1 q2

end Go.Proofs.YtcblfkojkdaepaaGreat
/- Words for what a call turns: nothing but the blocks of a list (and new ones); slices that lie off them. No condition. -/
namespace Go.Proofs.YtcblfkojkdaepaaGreat
open Go.RowKit

/-- Nothing that was there has turned, but the blocks of S. -/
structure Fr (S : List Nat) (w w' : World) : Prop where
  os : w'.os = w.os
  tape : w'.tape = w.tape
  output : w'.output = w.output
  size : w.heap.size ≤ w'.heap.size
  block : ∀ k, k < w.heap.size → k ∉ S → w'.heap[k]? = w.heap[k]?
theorem Fr.refl (S : List Nat) (w : World) : Fr S w w := ⟨rfl, rfl, rfl, Nat.le_refl _, fun _ _ _ => rfl⟩
theorem Fr.trans {S : List Nat} {a b c : World} (h : Fr S a b) (k : Fr S b c) : Fr S a c :=
  ⟨k.os.trans h.os, k.tape.trans h.tape, k.output.trans h.output, Nat.le_trans h.size k.size, fun i hi hn => (k.block i (Nat.lt_of_lt_of_le hi h.size) hn).trans (h.block i hi hn)⟩
theorem Fr.then {S U : List Nat} {w a b : World} (h : Fr S w a) (k : Fr U a b) (hU : ∀ x ∈ U, x ∈ S ∨ w.heap.size ≤ x) : Fr S w b :=
  ⟨k.os.trans h.os, k.tape.trans h.tape, k.output.trans h.output, Nat.le_trans h.size k.size, fun i hi hn => (k.block i (Nat.lt_of_lt_of_le hi h.size) (fun hm => (hU i hm).elim hn (fun hle => by omega))).trans (h.block i hi hn)⟩
theorem Fr.mono {S S' : List Nat} {w w' : World} (h : Fr S w w') (hs : ∀ k ∈ S, k ∈ S' ∨ w.heap.size ≤ k) : Fr S' w w' :=
  ⟨h.os, h.tape, h.output, h.size, fun k hk hn => h.block k hk (fun hm => (hs k hm).elim hn (fun hle => by omega))⟩
theorem Fr.of_below {S : List Nat} {w w' : World} (h : Below w.heap.size w w') : Fr S w w' := ⟨h.os, h.tape, h.output, h.size, fun k hk _ => h.block k hk⟩
theorem Fr.drewN {S : List Nat} (w : World) (n : Nat) : Fr S w (w.drewN n) := ⟨rfl, rfl, rfl, Nat.le_refl _, fun _ _ _ => rfl⟩
theorem Fr.drew {S : List Nat} (w : World) : Fr S w w.drew := ⟨rfl, rfl, rfl, Nat.le_refl _, fun _ _ _ => rfl⟩
theorem Fr.alloc {S : List Nat} {a w : World} (h : Fr S a w) (o : Obj) : Fr S a (w.alloc o) :=
  h.trans (Fr.of_below ((Below.refl _ _).alloc (Nat.le_refl _) _))
theorem Fr.grown {S : List Nat} {a w w' : World} {row : Option Nat} (h : Fr S a w) (hg : w.grownBy w' row) (hr : ∀ k, row = some k → k ∈ S ∨ a.heap.size ≤ k) : Fr S a w' :=
  ⟨hg.os.trans h.os, hg.tape.trans h.tape, hg.output.trans h.output, Nat.le_trans h.size hg.size, fun k hk hn => (hg.block k (Nat.lt_of_lt_of_le hk h.size) (fun e => (hr k e.symm).elim hn (fun hle => by omega))).trans (h.block k hk hn)⟩
theorem Fr.setCell {S : List Nat} {a w : World} (h : Fr S a w) {p : Addr} (hp : p.block ∈ S ∨ a.heap.size ≤ p.block) (u : Value) : Fr S a (w.setCell p u) :=
  ⟨h.os, h.tape, h.output, by simpa [World.setCell] using h.size, fun k hk hn => (Below.heap_setCell _ _ _ _ (fun e => by subst e; exact hp.elim hn (fun hle => by omega))).trans (h.block k hk hn)⟩
theorem Fr.below {S : List Nat} {B : Nat} {w w' : World} (h : Fr S w w') (hB : B ≤ w.heap.size) (hS : ∀ k ∈ S, B ≤ k) : Below B w w' :=
  ⟨h.os, h.tape, h.output, h.size, fun k hk => h.block k (by omega) (fun hm => by have := hS k hm; omega)⟩
theorem Fr.cell {S : List Nat} {w w' : World} (h : Fr S w w') {p : Addr} {v : Value} (hp : p.block ∉ S) (hc : w.cell? p = some v) : w'.cell? p = some v :=
  (World.cell?_of_block (w := w) (h.block p.block (block_lt_of_cell hc) hp)).trans hc
theorem Fr.heap {S : List Nat} {w w' : World} (h : Fr S w w') {b : Nat} {o : Obj} (hp : b ∉ S) (hc : w.heap[b]? = some o) : w'.heap[b]? = some o :=
  (h.block b (Array.getElem?_eq_some_iff.1 hc).1 hp).trans hc

/-- A slice that reads as a list, and lies in no block of S, in a row of such elements. -/
def RdN (t : TypeId) (S : List Nat) (w : World) (v : Value) (xs : List Value) : Prop :=
  (v = .slice none 0 0 ∧ xs = []) ∨
  ∃ (b off cap : Nat), v = .slice (some ⟨b, off, none⟩) xs.length cap ∧ xs.length ≤ cap ∧ b ∉ S ∧ (∃ cs fr, w.heap[b]? = some (.cells cs t fr)) ∧ ∀ j u, xs[j]? = some u → w.cell? ⟨b, off + j, none⟩ = some u
theorem RdN.rd {t : TypeId} {S : List Nat} {w : World} {v : Value} {xs : List Value} (h : RdN t S w v xs) : RdV w v xs := by
  rcases h with h | ⟨b, off, cap, hv, hle, _, _, hc⟩
  · exact .inl h
  · exact .inr ⟨⟨b, off, none⟩, cap, hv, hle, fun j u hj => ⟨b, off, rfl, hc j u hj⟩⟩
theorem RdN.fr {t : TypeId} {S T : List Nat} {w w' : World} {v : Value} {xs : List Value} (h : RdN t S w v xs) (hf : Fr T w w') (hT : ∀ k ∈ T, k ∈ S ∨ w.heap.size ≤ k) : RdN t S w' v xs := by
  rcases h with h | ⟨b, off, cap, hv, hle, hb, ⟨cs, fr, hh⟩, hc⟩
  · exact .inl h
  · have hbT : b ∉ T := fun hm => (hT b hm).elim hb (fun hle => by have := (Array.getElem?_eq_some_iff.1 hh).1; omega)
    exact .inr ⟨b, off, cap, hv, hle, hb, ⟨cs, fr, hf.heap hbT hh⟩, fun j u hj => hf.cell (p := ⟨b, off + j, none⟩) hbT (hc j u hj)⟩
/-- A turn of a block of other elements is nothing to it. -/
theorem RdN.other {t : TypeId} {S T : List Nat} {w w' : World} {v : Value} {xs : List Value} (h : RdN t S w v xs) (hf : Fr T w w') (hT : ∀ k ∈ T, k ∈ S ∨ w.heap.size ≤ k ∨ ∃ cs t' fr, w.heap[k]? = some (.cells cs t' fr) ∧ t' ≠ t) : RdN t S w' v xs := by
  rcases h with h | ⟨b, off, cap, hv, hle, hb, ⟨cs, fr, hh⟩, hc⟩
  · exact .inl h
  · have hbT : b ∉ T := fun hm => by
      rcases hT b hm with h | h | ⟨cs', t', fr', h, hne⟩
      · exact hb h
      · have := (Array.getElem?_eq_some_iff.1 hh).1; omega
      · rw [hh] at h
        simp only [Option.some.injEq, Obj.cells.injEq] at h
        exact hne h.2.1.symm
    exact .inr ⟨b, off, cap, hv, hle, hb, ⟨cs, fr, hf.heap hbT hh⟩, fun j u hj => hf.cell (p := ⟨b, off + j, none⟩) hbT (hc j u hj)⟩
theorem RdN.to {t : TypeId} {S S' : List Nat} {w : World} {v : Value} {xs : List Value} (h : RdN t S w v xs) (hS : ∀ k ∈ S', k ∈ S ∨ w.heap.size ≤ k) : RdN t S' w v xs := by
  rcases h with h | ⟨b, off, cap, hv, hle, hb, ⟨cs, fr, hh⟩, hc⟩
  · exact .inl h
  · exact .inr ⟨b, off, cap, hv, hle, fun hm => (hS b hm).elim hb (fun hle => by have := (Array.getElem?_eq_some_iff.1 hh).1; omega), ⟨cs, fr, hh⟩, hc⟩
theorem RdN.open {t : TypeId} {S : List Nat} {w : World} {v : Value} {xs : List Value} (h : RdN t S w v xs) : ∃ a cap, v = .slice a xs.length cap ∧ xs.length ≤ cap ∧ ∀ j u, xs[j]? = some u → ∃ b off, a = some ⟨b, off, none⟩ ∧ b ∉ S ∧ w.cell? ⟨b, off + j, none⟩ = some u := by
  rcases h with ⟨rfl, rfl⟩ | ⟨b, off, cap, hv, hle, hb, hlt, hc⟩
  · exact ⟨none, 0, rfl, by simp, fun j u hj => by simp at hj⟩
  · exact ⟨some ⟨b, off, none⟩, cap, hv, hle, fun j u hj => ⟨b, off, rfl, hb, hc j u hj⟩⟩
/-- What a row of the call's own holds, read so. -/
theorem RdN_of_owns {S : List Nat} {w : World} {base : Nat} {e : TypeId} {v : Value} {n : Nat} {xs : List Value} (h : w.ownsRow base e 1 v n xs) (hS : ∀ k ∈ S, k < base) : RdN e S w v xs := by
  obtain ⟨hl, h⟩ := h
  rcases h with ⟨rfl, rfl⟩ | ⟨g, cap, cur, rfl, hb, hg, hn, hm, hs, htake⟩
  · exact .inl ⟨rfl, by simpa using hl⟩
  · refine .inr ⟨g, 0, cap, by simp [hl], by simp [hl]; omega, fun hm => by have := hS g hm; omega, ⟨cur, _, hg⟩, fun j u hj => ?_⟩
    rw [cell_of_row w g _ cur e (0, 0) hg]
    rw [← htake, List.getElem?_take] at hj
    split at hj
    · simpa using hj
    · cases hj
end Go.Proofs.YtcblfkojkdaepaaGreat
/- What a disk is in memory; a disk is begun: contracts of slices.Clone (rows of sectors) and disk.begun. -/
namespace Go.Proofs.YtcblfkojkdaepaaGreat
open Go.RowKit

/-- An entry of the map of what waits: its number, the row that it holds, the one write of that row, its stamp. -/
structure Ent where
  k : Nat
  sl : Value
  v : Value
  born : Nat
def Ent.obj (e : Ent) : MapEntry := { key := .int .i64 (e.k : Int), val := e.sl, born := e.born }
/-- A disk: its first sectors, its ops, its safe sectors, and the writes that wait, one a sector. -/
structure DiskAt (w : World) (g bs bm : Nat) (F O S : List Value) (T : List Ent) : Prop where
  box : ∃ fv lv sc, w.heap[g]? = some (.cells #[fv, lv, .slice (some ⟨bs, 0, none⟩) S.length sc, .map (some bm)] 114 (0, 0)) ∧ RdN 46 [g, bs, bm] w fv F ∧ RdN 149 [g, bs, bm] w lv O ∧ S.length ≤ sc
  row : ∃ cs, w.heap[bs]? = some (.cells cs 46 (0, 0)) ∧ cs.toList.take S.length = S ∧ S.length ≤ cs.size
  map : ∃ clock, w.heap[bm]? = some (.map (T.map Ent.obj).toArray clock) ∧ (∀ e ∈ T, e.born < clock) ∧ (T.map (·.born)).Nodup
  ents : ∀ e ∈ T, RdN 46 [g, bs, bm] w e.sl [e.v]
  keys : T.Pairwise (fun a b => a.k < b.k)
  len : F.length = S.length
  keyLt : ∀ e ∈ T, e.k < S.length
  one : ∀ v ∈ F ++ S, ∃ a n c, v = .slice a n c
  oneE : ∀ e ∈ T, ∃ a n c, e.v = .slice a n c
  apart : g ≠ bs ∧ g ≠ bm ∧ bs ≠ bm
theorem DiskAt.lt {w : World} {g bs bm : Nat} {F O S : List Value} {T : List Ent} (D : DiskAt w g bs bm F O S T) : g < w.heap.size ∧ bs < w.heap.size ∧ bm < w.heap.size := by
  obtain ⟨_, _, _, h1, _⟩ := D.box
  obtain ⟨_, h2, _⟩ := D.row
  obtain ⟨_, h3, _⟩ := D.map
  exact ⟨(Array.getElem?_eq_some_iff.1 h1).1, (Array.getElem?_eq_some_iff.1 h2).1, (Array.getElem?_eq_some_iff.1 h3).1⟩
/-- What happens off its blocks is nothing to a disk. -/
theorem DiskAt.fr {w w' : World} {g bs bm : Nat} {F O S : List Value} {T : List Ent} {U : List Nat} (D : DiskAt w g bs bm F O S T) (h : Fr U w w') (hU : ∀ k ∈ U, w.heap.size ≤ k) : DiskAt w' g bs bm F O S T := by
  have hl := D.lt
  have ho : ∀ b, b < w.heap.size → b ∉ U := fun b hb hm => by have := hU b hm; omega
  have hT : ∀ k ∈ U, k ∈ [g, bs, bm] ∨ w.heap.size ≤ k := fun k hk => .inr (hU k hk)
  obtain ⟨fv, lv, sc, h1, h2, h3, h4⟩ := D.box
  obtain ⟨cs, r1, r2, r3⟩ := D.row
  obtain ⟨cl, m1, m2, m3⟩ := D.map
  exact ⟨⟨fv, lv, sc, h.heap (ho _ hl.1) h1, h2.fr h hT, h3.fr h hT, h4⟩, ⟨cs, h.heap (ho _ hl.2.1) r1, r2, r3⟩, ⟨cl, h.heap (ho _ hl.2.2) m1, m2, m3⟩, fun e he => (D.ents e he).fr h hT, D.keys, D.len, D.keyLt, D.one, D.oneE, D.apart⟩

theorem info_row : (Tryz.prog.info? 46).map (fun i => (i.zero, i.size, i.bytes)) = some (some (.slice none 0 0), 1, 24) := by kernel_rfl

set_option maxHeartbeats 1000000 in
theorem cloneR_any (w : World) (v : Value) (xs : List Value) (hv : RdV w v xs) (hl : xs.length ≤ 4096) (h0 : 0 < xs.length) (h1 : ∀ u ∈ xs, ∃ a n c, u = .slice a n c) :
    Calls Tryz.prog 45 #[v] w fun e w' => ∃ r, e = .returned r ∧ w'.ownsRow w.heap.size 46 1 r xs.length xs ∧ Below w.heap.size w w' := by
  have q22 : ∀ (w : World) (a : Option Addr) (n c n' c' : Nat), (binOp .eql 51 (.slice a n c) (.slice none n' c')).run Tryz.prog w = .ok (.bool a.isNone) w := fun w a n c n' c' => Lib.run_eql_slice_nil w _ _ a n c n' c' Tryz.underlying51
  rcases hv with ⟨rfl, hnil⟩ | ⟨ad, cap, rfl, hle, hc⟩
  · subst hnil; simp at h0
  · obtain ⟨i0, hi, hz0, hz1, hz2⟩ := info_parts info_row
    have hrd : RdV (w.alloc (.cells #[] 46)) (.slice (some ad) xs.length cap) xs := by
      have h0 : RdV w (.slice (some ad) xs.length cap) xs := .inr ⟨ad, cap, rfl, hle, hc⟩
      exact h0.below ((Below.refl _ _).alloc (Nat.le_refl _) _)
    have HV := Lib.hid hrd
    have H1 := Lib.hid h1
    clear hc hrd hle h1
    go_enter Tryz.func45, Tryz.ntmps45
    go_wp2_with (refine wpList_app rfl _ _ 51 rfl w.heap.size 46 i0 (.slice none 0 0) 24 Tryz.underlying51 hi hz0 hz1 hz2 rfl _ 0 [] rfl (World.ownsRow_made w #[] 0 (Nat.le_refl _) (Nat.zero_le _) rfl) _ xs rfl HV.out ?c1 ?c2 (by omega) (by simp) ?_)
    case c1 =>
      intro u hu
      obtain ⟨a, n, c, rfl⟩ := H1.out u hu
      rfl
    case c2 => omega
    try simp only [Nat.zero_add, List.nil_append]
    intro v' w' hown hgr
    have hb := ((Below.refl w.heap.size w).alloc (Nat.le_refl _) (.cells #[] 46)).grown hgr (by simp) (by intro k hk; simp [Value.ownBlock] at hk; omega)
    have HO := Lib.hid hown; have HB := Lib.hid hb
    clear hown hgr hb
    go_wp2
    go_ret
    exact ⟨v', rfl, HO.out, HB.out⟩
theorem begun_disk {w w' : World} {v : Value} {xs : List Value} {gs sc : Nat} {cur : Array Value} (hv : RdN 46 [] w v xs) (h1 : ∀ u ∈ xs, ∃ a n c, u = .slice a n c) (hb : Below w.heap.size w w') (hh : w'.heap[gs]? = some (.cells cur 46 (0, 0)))
    (ht : List.take (xs.length * 1) cur.toList = xs) (hs : cur.size = sc * 1) (hn : xs.length ≤ sc) (hg : w.heap.size ≤ gs) :
    DiskAt ((w'.alloc (.map #[] 0)).alloc (.cells #[v, .slice none 0 0, .slice (some ⟨gs, 0, none⟩) xs.length sc, .map (some w'.heap.size)] 114)) (w'.heap.size + 1) gs w'.heap.size xs [] xs [] := by
  have hlt := (Array.getElem?_eq_some_iff.1 hh).1
  have hF : Fr [] w ((w'.alloc (.map #[] 0)).alloc (.cells #[v, .slice none 0 0, .slice (some ⟨gs, 0, none⟩) xs.length sc, .map (some w'.heap.size)] 114)) := ((Fr.of_below hb).alloc _).alloc _
  have hF2 : Fr [] w' ((w'.alloc (.map #[] 0)).alloc (.cells #[v, .slice none 0 0, .slice (some ⟨gs, 0, none⟩) xs.length sc, .map (some w'.heap.size)] 114)) := ((Fr.refl _ _).alloc _).alloc _
  refine ⟨⟨v, .slice none 0 0, sc, ?_, ?_, .inl ⟨rfl, rfl⟩, hn⟩, ⟨cur, hF2.heap (by simp) hh, by simpa using ht, by omega⟩, ⟨0, ?_, by simp, by simp⟩, by simp, by simp, rfl, by simp, ?_, by simp, ?_⟩
  · have := heap_alloc_new (w'.alloc (.map #[] 0)) (.cells #[v, .slice none 0 0, .slice (some ⟨gs, 0, none⟩) xs.length sc, .map (some w'.heap.size)] 114)
    simpa using this
  · exact (hv.to (fun k hk => .inr (by have := hb.size; simp at hk; omega))).fr hF (by simp)
  · exact ((Fr.refl [] (w'.alloc (.map #[] 0))).alloc _).heap (by simp) (by simpa using heap_alloc_new w' (.map #[] 0))
  · intro u hu
    exact h1 u (by simpa using hu)
  · exact ⟨by omega, by omega, by omega⟩
theorem begun_nil (w' : World) (v : Value) (s : Value) (m : Value) (t : TypeId) : ((w'.alloc (.map #[] 0)).alloc (.cells #[v, .slice none 0 0, s, m] t)).cell? ⟨w'.heap.size + 1, 1, none⟩ = some (.slice none 0 0) := by
  have h := heap_alloc_new (w'.alloc (.map #[] 0)) (.cells #[v, .slice none 0 0, s, m] t)
  have h2 : ((w'.alloc (.map #[] 0)).alloc (.cells #[v, .slice none 0 0, s, m] t)).heap[w'.heap.size + 1]? = some (.cells #[v, .slice none 0 0, s, m] t (0, 0)) := by simpa using h
  rw [cell_of_row _ _ 1 _ _ _ h2]; rfl
set_option maxRecDepth 100000 in
set_option maxHeartbeats 1000000 in
theorem begun2_any (w : World) (v : Value) (xs : List Value) (hv : RdN 46 [] w v xs) (hl : xs.length ≤ 4096) (h0 : 0 < xs.length) (h1 : ∀ u ∈ xs, ∃ a n c, u = .slice a n c) :
    Calls Tryz.prog 15 #[v] w fun e w' => ∃ g bs bm, e = .returned (.pointer (some ⟨g, 0, none⟩)) ∧ DiskAt w' g bs bm xs [] xs [] ∧ Below w.heap.size w w' ∧ w.heap.size ≤ g ∧ w.heap.size ≤ bs ∧ w.heap.size ≤ bm ∧ w'.cell? ⟨g, 1, none⟩ = some (.slice none 0 0) := by
  have HV := Lib.hid hv; have H1 := Lib.hid h1; have HL := Lib.hid hl; have H0 := Lib.hid h0
  have hmm := @run_makeMap Tryz.prog
  obtain ⟨a, cap, rfl, hcap, hcv⟩ := hv.open
  clear hv h1 hcv hl h0
  go_enter Tryz.func15, Tryz.ntmps15
  go_wp2_with fail
  refine (cloneR_any _ _ xs HV.out.rd HL.out H0.out H1.out).mono ?_
  rintro e w' ⟨r, rfl, hown, hb⟩
  obtain ⟨hlen, hr⟩ := hown
  rcases hr with ⟨_, h00⟩ | ⟨gs, sc, cur, rfl, hg, hh, hn, hm, hs, ht⟩
  · exact absurd H0.out (by omega)
  · have HB := Lib.hid hb; have HH := Lib.hid hh; have HT := Lib.hid ht; have HS := Lib.hid hs; have HN := Lib.hid hn; have HG := Lib.hid hg
    clear hb hh ht hs hn hg hlen hm
    go_wp2
    go_ret
    exact ⟨_, _, _, rfl, begun_disk HV.out H1.out HB.out HH.out HT.out HS.out HN.out HG.out, (HB.out.alloc HB.out.size _).alloc (by have := HB.out.size; simp; omega) _, by have := HB.out.size; omega, HG.out, HB.out.size, begun_nil _ _ _ _ _⟩
theorem begun_any (w : World) (v : Value) (xs : List Value) (hv : RdN 46 [] w v xs) (hl : xs.length ≤ 4096) (h0 : 0 < xs.length) (h1 : ∀ u ∈ xs, ∃ a n c, u = .slice a n c) :
    Calls Tryz.prog 15 #[v] w fun e w' => ∃ g bs bm, e = .returned (.pointer (some ⟨g, 0, none⟩)) ∧ DiskAt w' g bs bm xs [] xs [] ∧ Below w.heap.size w w' ∧ w.heap.size ≤ g ∧ w.heap.size ≤ bs ∧ w.heap.size ≤ bm :=
  (begun2_any w v xs hv hl h0 h1).mono fun _ _ ⟨g, bs, bm, a, b, c, d, e, f, _⟩ => ⟨g, bs, bm, a, b, c, d, e, f⟩
end Go.Proofs.YtcblfkojkdaepaaGreat
