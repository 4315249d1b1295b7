/- Small laws for the walks of this seat: bytes and 32-bit words as Lean's own UInt8, UInt32; slices that read as lists. No condition. -/
import Derived.Test.YtlkieepfjhiflaaRows
import Derived.WalkKit
import Derived.WalkSpells
import Derived.WalkLawsBesides
import Derived.Deep.QuietTactic
import Derived.BigQuiet
import Derived.StillTailTactics
import Derived.Lib.Hide
import Derived.Laws.AppendOwnNone
namespace Go.Proofs.Ytlkieepfjhiflaa
open Go.RowKit

/-- A byte, a word, as the model's integers. -/
def n8 (x : UInt8) : Int := x.toNat
def n32 (x : UInt32) : Int := x.toNat

theorem n8_lo (x : UInt8) : 0 ≤ n8 x := by unfold n8; omega
theorem n8_hi (x : UInt8) : n8 x ≤ 255 := by have := x.toNat_lt; unfold n8; omega
theorem n32_lo (x : UInt32) : 0 ≤ n32 x := by unfold n32; omega
theorem n32_hi (x : UInt32) : n32 x ≤ 4294967295 := by have := x.toNat_lt; unfold n32; omega
theorem n8_inj {x y : UInt8} : n8 x = n8 y ↔ x = y := by
  unfold n8; rw [← UInt8.toNat_inj]; omega
theorem n32_inj {x y : UInt32} : n32 x = n32 y ↔ x = y := by
  unfold n32; rw [← UInt32.toNat_inj]; omega

@[go_sem] theorem n8_beq (x y : UInt8) : (n8 x == n8 y) = (x == y) := by
  rw [Bool.eq_iff_iff]; simp [n8_inj]
@[go_sem] theorem n8_bne (x y : UInt8) : (n8 x != n8 y) = (x != y) := by simp [bne, n8_beq]
@[go_sem] theorem n32_beq (x y : UInt32) : (n32 x == n32 y) = (x == y) := by
  rw [Bool.eq_iff_iff]; simp [n32_inj]
@[go_sem] theorem n32_bne (x y : UInt32) : (n32 x != n32 y) = (x != y) := by simp [bne, n32_beq]

section
variable (x y : UInt32)
@[go_sem ↓] theorem op_add_u32 : Op.intArith .add .u32 (n32 x) (n32 y) = pure (.int .u32 (n32 (x + y))) := by
  simp only [Op.intArith, n32, IntKind.wrap_u32, UInt32.toNat_add]; congr 2
theorem ofInt_n32 : BitVec.ofInt IntKind.u32.bits (n32 x) = x.toBitVec := by
  apply BitVec.eq_of_toNat_eq
  have h := x.toNat_lt
  show (BitVec.ofInt 32 (x.toNat : Int)).toNat = _
  simp [BitVec.ofInt_natCast]; rfl
theorem back_u32 (r : BitVec 32) : (pure (.int .u32 (IntKind.u32.wrap (r.toNat : Int))) : Sem Value) = pure (.int .u32 (n32 (UInt32.ofBitVec r))) := by
  have h := r.isLt
  simp only [IntKind.wrap_u32, n32, UInt32.toNat_ofBitVec]
  congr 2
  omega
@[go_sem ↓] theorem op_xor_u32 : Op.intBits .xor .u32 (n32 x) (n32 y) = pure (.int .u32 (n32 (x ^^^ y))) := by
  simp only [Op.intBits, ofInt_n32]; exact back_u32 _
@[go_sem ↓] theorem op_and_u32 : Op.intBits .and .u32 (n32 x) (n32 y) = pure (.int .u32 (n32 (x &&& y))) := by
  simp only [Op.intBits, ofInt_n32]; exact back_u32 _
@[go_sem ↓] theorem op_or_u32 : Op.intBits .or .u32 (n32 x) (n32 y) = pure (.int .u32 (n32 (x ||| y))) := by
  simp only [Op.intBits, ofInt_n32]; exact back_u32 _
theorem op_xorL_u32 (n : Int) (h : n = n32 x) : Op.intBits .xor .u32 n (n32 y) = pure (.int .u32 (n32 (x ^^^ y))) := by rw [h, op_xor_u32]
theorem op_andL_u32 (n : Int) (h : n = n32 x) : Op.intBits .and .u32 n (n32 y) = pure (.int .u32 (n32 (x &&& y))) := by rw [h, op_and_u32]
theorem op_andR_u32 (n : Int) (h : n = n32 y) : Op.intBits .and .u32 (n32 x) n = pure (.int .u32 (n32 (x &&& y))) := by rw [h, op_and_u32]
@[go_sem ↓] theorem op_not_u32 : Op.unary .xor (.int .u32 (n32 x)) = pure (.int .u32 (n32 (~~~ x))) := by
  have e : Op.unary .xor (.int .u32 (n32 x)) = Op.intBits .xor .u32 (n32 4294967295) (n32 x) := rfl
  rw [e, op_xor_u32]
  have : (4294967295 : UInt32) ^^^ x = ~~~ x := by
    rw [← UInt32.toBitVec_inj]
    simp only [UInt32.toBitVec_xor, UInt32.toBitVec_not]
    have : (4294967295 : UInt32).toBitVec = BitVec.allOnes 32 := rfl
    rw [this, BitVec.allOnes_xor]
  rw [this]
@[go_sem ↓] theorem op_neg_u32 : Op.unary .neg (.int .u32 (n32 x)) = pure (.int .u32 (n32 (- x))) := by
  have h := x.toNat_lt
  simp only [Op.unary, Op.intArith, n32, IntKind.wrap_u32]
  congr 2
  rw [UInt32.toNat_neg]
  simp only [UInt32.size]
  omega
theorem shr_u32 (n : Nat) (h : n < 32) (yk : IntKind) (m : Int) (hm : m = n) : Op.shift .shr .u32 (n32 x) yk m = pure (.int .u32 (n32 (x >>> (UInt32.ofNat n)))) := by
  subst hm
  rw [shift_shr _ _ _ _ (by omega) (by simp [IntKind.bits]; omega)]
  congr 2
  simp only [n32, UInt32.toNat_shiftRight, Int.toNat_natCast, UInt32.toNat_ofNat']
  rw [Nat.mod_eq_of_lt (show n < 2 ^ 32 by omega), Nat.mod_eq_of_lt h, Nat.shiftRight_eq_div_pow]
  simp
theorem shl_u32 (n : Nat) (h : n < 32) (yk : IntKind) (m : Int) (hm : m = n) : Op.shift .shl .u32 (n32 x) yk m = pure (.int .u32 (n32 (x <<< (UInt32.ofNat n)))) := by
  subst hm
  rw [shift_shl _ _ _ _ (by omega) (by simp [IntKind.bits]; omega)]
  congr 2
  simp only [n32, UInt32.toNat_shiftLeft, Int.toNat_natCast, UInt32.toNat_ofNat', IntKind.wrap_u32]
  rw [Nat.mod_eq_of_lt (show n < 2 ^ 32 by omega), Nat.mod_eq_of_lt h, Nat.shiftLeft_eq]
  simp
end
@[go_sem ↓] theorem op_conv_8_32 (x : UInt8) : Conv.intToInt .u32 (n8 x) = pure (.int .u32 (n32 x.toUInt32)) := by
  have h := x.toNat_lt
  simp only [Conv.intToInt, n8, n32, IntKind.wrap_u32, UInt8.toNat_toUInt32]
  congr 2
  omega
@[go_sem ↓] theorem op_conv_32_8 (x : UInt32) : Conv.intToInt .u8 (n32 x) = pure (.int .u8 (n8 x.toUInt8)) := by
  simp only [Conv.intToInt, n8, n32, IntKind.wrap_u8, UInt32.toNat_toUInt8]
  congr 2

section
variable (x y : UInt32)
@[go_sem] theorem n32_add : (n32 x + n32 y) % 4294967296 = n32 (x + y) := by simp only [n32, UInt32.toNat_add]; omega
@[go_sem] theorem n32_addw : IntKind.u32.wrap (n32 x + n32 y) = n32 (x + y) := by rw [IntKind.wrap_u32, n32_add]
@[go_sem] theorem n32_xor : bits BinOp.xor .u32 (n32 x) (n32 y) = n32 (x ^^^ y) := by
  have h := op_xor_u32 x y; rw [intBits_xor] at h; injection h with h; injection h
@[go_sem] theorem n32_and : bits BinOp.and .u32 (n32 x) (n32 y) = n32 (x &&& y) := by
  have h := op_and_u32 x y; rw [intBits_and] at h; injection h with h; injection h
@[go_sem] theorem n32_or : bits BinOp.or .u32 (n32 x) (n32 y) = n32 (x ||| y) := by
  have h := op_or_u32 x y; rw [intBits_or] at h; injection h with h; injection h
@[go_sem] theorem n32_not : bits BinOp.xor .u32 IntKind.u32.max (n32 x) = n32 (~~~x) := by
  have h := op_not_u32 x
  have e : Op.unary .xor (.int .u32 (n32 x)) = Op.intBits .xor .u32 IntKind.u32.max (n32 x) := rfl
  rw [e, intBits_xor] at h; injection h with h; injection h
@[go_sem] theorem n32_neg : -n32 x % 4294967296 = n32 (-x) := by
  have h := x.toNat_lt
  simp only [n32, UInt32.toNat_neg, UInt32.size]; omega
@[go_sem] theorem n32_of8 (x : UInt8) : n8 x % 4294967296 = n32 x.toUInt32 := by
  have h := x.toNat_lt
  simp only [n8, n32, UInt8.toNat_toUInt32]; omega
@[go_sem] theorem n32_of8w (x : UInt8) : IntKind.u32.wrap (n8 x) = n32 x.toUInt32 := by rw [IntKind.wrap_u32, n32_of8]
@[go_sem] theorem n8_of32 : n32 x % 256 = n8 x.toUInt8 := by
  simp only [n8, n32, UInt32.toNat_toUInt8]; omega
@[go_sem] theorem n8_of32w : IntKind.u8.wrap (n32 x) = n8 x.toUInt8 := by rw [IntKind.wrap_u8, n8_of32]
end

theorem ret_eq {v v' : Value} (h : v = v') : Ending.returned v = .returned v' := by rw [h]

/-- A slice value reads as a list of one-cell values. -/
def RdV (w : World) (v : Value) (xs : List Value) : Prop :=
  (v = .slice none 0 0 ∧ xs = []) ∨
  ∃ (ad : Addr) (cap : Nat), v = .slice (some ad) xs.length cap ∧ xs.length ≤ cap ∧ ∀ j u, xs[j]? = some u → ∃ b off, ad = ⟨b, off, none⟩ ∧ w.cell? ⟨b, off + j, none⟩ = some u
def vB (x : UInt8) : Value := .int .u8 (n8 x)
def vW (x : UInt32) : Value := .int .u32 (n32 x)
/-- A slice value reads as bytes (words). -/
def RdB (w : World) (v : Value) (l : List UInt8) : Prop := RdV w v (l.map vB)
def RdW (w : World) (v : Value) (l : List UInt32) : Prop := RdV w v (l.map vW)

theorem RdV.below {w w' : World} {v : Value} {xs : List Value} (h : RdV w v xs) (hb : Below w.heap.size w w') : RdV w' v xs := by
  rcases h with h | ⟨ad, cap, rfl, hle, hc⟩
  · exact .inl h
  · refine .inr ⟨ad, cap, rfl, hle, fun j u hj => ?_⟩
    obtain ⟨b, off, ha, hcell⟩ := hc j u hj
    exact ⟨b, off, ha, (hb.cell (block_lt_of_cell hcell)).trans hcell⟩

theorem RdV.le {w : World} {a : Option Addr} {n cap : Nat} {xs : List Value} (h : RdV w (.slice a n cap) xs) : n = xs.length ∧ n ≤ cap := by
  rcases h with ⟨h, rfl⟩ | ⟨ad, cap', h, hle, _⟩
  · cases h; exact ⟨rfl, Nat.le_refl _⟩
  · cases h; exact ⟨rfl, hle⟩
theorem RdV.open {w : World} {v : Value} {xs : List Value} (h : RdV w v xs) : ∃ a cap, v = .slice a xs.length cap ∧ ∀ j u, xs[j]? = some u → ∃ b off, a = some ⟨b, off, none⟩ ∧ w.cell? ⟨b, off + j, none⟩ = some u := by
  rcases h with ⟨rfl, rfl⟩ | ⟨ad, cap, rfl, _, hc⟩
  · exact ⟨none, 0, rfl, fun j u hj => by simp at hj⟩
  · refine ⟨some ad, cap, rfl, fun j u hj => ?_⟩
    obtain ⟨b, off, rfl, h2⟩ := hc j u hj
    exact ⟨b, off, rfl, h2⟩
theorem RdB.open {w : World} {v : Value} {l : List UInt8} (h : RdB w v l) : ∃ a cap, v = .slice a l.length cap ∧ ∀ i (h : i < l.length), ∃ b off, a = some ⟨b, off, none⟩ ∧ w.cell? ⟨b, off + i, none⟩ = some (.int .u8 (n8 l[i])) := by
  obtain ⟨a, cap, rfl, hc⟩ := RdV.open h
  refine ⟨a, cap, by simp, fun i hi => ?_⟩
  exact hc i _ (by simp [hi, vB])
theorem RdW.open {w : World} {v : Value} {l : List UInt32} (h : RdW w v l) : ∃ a cap, v = .slice a l.length cap ∧ ∀ i (h : i < l.length), ∃ b off, a = some ⟨b, off, none⟩ ∧ w.cell? ⟨b, off + i, none⟩ = some (.int .u32 (n32 l[i])) := by
  obtain ⟨a, cap, rfl, hc⟩ := RdV.open h
  refine ⟨a, cap, by simp, fun i hi => ?_⟩
  exact hc i _ (by simp [hi, vW])

/-- What a row of the call's own holds, read as a slice. -/
theorem RdV_of_owns {w : World} {base : Nat} {e : TypeId} {v : Value} {n : Nat} {xs : List Value} (h : w.ownsRow base e 1 v n xs) : RdV w v xs := by
  obtain ⟨hl, h⟩ := h
  rcases h with ⟨rfl, rfl⟩ | ⟨g, cap, cur, rfl, hb, hg, hn, hm, hs, htake⟩
  · exact .inl ⟨rfl, by simpa using hl⟩
  · refine .inr ⟨⟨g, 0, none⟩, cap, by simp [hl], by simp [hl]; omega, fun j u hj => ⟨g, 0, rfl, ?_⟩⟩
    rw [cell_of_row w g _ cur e (0, 0) hg]
    rw [← htake, List.getElem?_take] at hj
    split at hj
    · simpa using hj
    · cases hj

theorem vB_one (l : List UInt8) : ∀ u ∈ l.map vB, u.oneCell' = true := by
  intro u hu
  obtain ⟨x, _, rfl⟩ := List.mem_map.1 hu
  rfl
theorem vW_one (l : List UInt32) : ∀ u ∈ l.map vW, u.oneCell' = true := by
  intro u hu
  obtain ⟨x, _, rfl⟩ := List.mem_map.1 hu
  rfl
theorem drewN_two (w : World) (n m : Nat) : ∃ k, (w.drewN n).drewN m = w.drewN k := ⟨n + m, by simp [World.drewN, Nat.add_assoc]⟩

theorem below_grown {w w' : World} {B : Nat} {row : Option Nat} (hg : w.grownBy w' row) (hB : B ≤ w.heap.size) (hr : ∀ k, row = some k → B ≤ k) : Below B w w' :=
  (Below.refl B w).grown hg hB hr

/-- 'append(v, s...)': v the call's own (or nil), s whatever reads as a list. -/
theorem wpList_app {P : Program} {w : World} {ops : Array Oper} {rest : List Oper} {o : Oper} {a : Act} {Q : Exit → Act → World → Prop} (hgd : o.guard = none) (s x : Operand) (t : TypeId)
    (ho : o.op = .call { callee := .builtin .append, args := #[s, x], argTypes := #[t, t] })
    (base : Nat) (e : TypeId) (i : TypeInfo) (z : Value) (bytes : Nat) (ht : P.underlying t = some (.slice e)) (hi : P.info? e = some i) (hz : i.zero = some z)
    (hsize : i.size = 1) (hby : i.bytes = bytes) (hzs : z.cells.size = 1)
    (v : Value) (n : Nat) (xs : List Value) (hs : a.eval s = v) (hown : w.ownsRow base e 1 v n xs)
    (y : Value) (news : List Value) (hx : a.eval x = y) (hy : RdV w y news)
    (h1 : ∀ u ∈ news, u.oneCell' = true) (hbytes : (n + news.length) * bytes ≤ 140737488355328) (hb0 : 0 < bytes) (hbase : base ≤ w.heap.size)
    (h : ∀ v' w', w'.ownsRow base e 1 v' (n + news.length) (xs ++ news) → w.grownBy w' v.ownBlock → wpList P ops Q rest (a.put o.dst v') w') : wpList P ops Q (o :: rest) a w := by
  have hle : n + news.length ≤ maxLen := by
    have := Nat.le_trans (Nat.le_mul_of_pos_right (n + news.length) hb0) hbytes
    simp only [maxLen]; omega
  rcases hy with ⟨rfl, rfl⟩ | ⟨ad, cap, rfl, _, hc⟩
  · refine wpList_append_own_none hgd s x t ho base e i 1 ht hi v n xs hs hown hx ?_
    exact h v w (by simpa using hown) ⟨rfl, rfl, rfl, Nat.le_refl _, fun _ _ _ => rfl⟩
  · refine wpList_append_own w hgd s x t ho base e i z 1 bytes ht hi hz hsize hby hzs (by decide) v n xs hs hown ad news.length cap news hx (by simp) ?_ h1 hle hbytes hbase ?_
    · intro j u hj
      obtain ⟨b, off, rfl, e2⟩ := hc j u hj
      have hadd : (⟨b, off, none⟩ : Addr).add j = ⟨b, off + j, none⟩ := by unfold Addr.add; split <;> simp_all
      rw [hadd]; exact e2
    · intro v' w' q1 q2 _
      exact h v' w' q1 q2

end Go.Proofs.Ytlkieepfjhiflaa
