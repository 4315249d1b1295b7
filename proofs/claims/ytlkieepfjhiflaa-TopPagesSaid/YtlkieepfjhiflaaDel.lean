/- The library's contract for slices.DeleteFunc, at numbers. -/
import Derived.Shelf.SlGeneric
import Derived.Shelf.SlicesE.DeleteFunc
import Derived.Test.YtlkieepfjhiflaaCst
namespace Go.Proofs.Ytlkieepfjhiflaa
open Go.Shelf Go.RowKit Go.ChangeMaps

def del_ren : Go.Shelf.Ren := ⟨fun | 10 => 61 | 6 => 68 | n => n, fun | 22 => 77 | 23 => 3 | 25 => 122 | 3 => 3 | 4 => 4 | 0 => 0 | n => n, fun | n => n⟩
theorem del_laid : Go.Proofs.SlLaysH.n10 Try.prog del_ren := {
  mixed := by kernel_rfl
  f6 := ⟨Try.f68.name, by decide, Try.func68.trans (congrArg some (by kernel_rfl))⟩
  f10 := ⟨Try.f61.name, by decide, Try.func61.trans (congrArg some (by kernel_rfl))⟩
  t0 := Try.underlying0
  a0 := Try.isAgg0
  z0 := Try.sizeOf0
  v0 := Try.zeroValue0
  t3 := Try.underlying3
  a3 := Try.isAgg3
  z3 := Try.sizeOf3
  v3 := Try.zeroValue3
  t4 := Try.underlying4
  a4 := Try.isAgg4
  z4 := Try.sizeOf4
  v4 := Try.zeroValue4
  t22 := Try.underlying77
  a22 := Try.isAgg77
  z22 := Try.sizeOf77
  v22 := Try.zeroValue77
  a23 := Try.isAgg3
  z23 := Try.sizeOf3
  t25 := Try.underlying122
  a25 := Try.isAgg122
  z25 := Try.sizeOf122
  v25 := Try.zeroValue122 }
/-- The closure of drop: is it this number? -/
theorem drop1_any (W : World) (n : Nat) (B : Nat) (hc : W.cell? ⟨B, 0, none⟩ = some (.int .i64 (n : Int))) (x : Int) :
    Calls Try.prog 62 #[.int .i64 x, .pointer (some ⟨B, 0, none⟩)] W fun e w' => e = .returned (.bool (x == (n : Int))) ∧ ∃ q, w' = W.drewN q := by
  go_enter Try.func62, Try.ntmps62
  go_wp2
  all_goals (go_ret; exact ⟨by simp_all, 0, rfl⟩)
theorem putRow_heap {α : Type} [Inhabited α] (enc : α → Value) (w : World) (b off : Nat) (d : Array α) (k : Nat) (hk : k ≠ b) : (Sort.putRow enc w b off d).heap[k]? = w.heap[k]? := by
  unfold Sort.putRow Sort.mapBlock
  simp only [Array.getElem?_modify]
  rw [if_neg (fun e => hk e.symm)]
set_option maxHeartbeats 1000000 in
theorem delete_any (w : World) (rv : Value) (row : List Nat) (h : RowZ w rv row) (hl : row.length ≤ 4096) (n B : Nat) (hB : w.heap[B]? = some (.cells #[.int .i64 (n : Int)] 3 (0, 0))) (hne : B ∉ rv.ownBlock.toList) :
    Calls Try.prog 61 #[rv, .func (.func 62) #[] #[.pointer (some ⟨B, 0, none⟩)]] w fun e w' => ∃ rv', e = .returned rv' ∧ rv'.ownBlock = rv.ownBlock ∧ RowZ w' rv' (row.filter (· != n)) ∧ Fr rv.ownBlock.toList w w' := by
  have hcell : w.cell? ⟨B, 0, none⟩ = some (.int .i64 (n : Int)) := (cell_of_row w B 0 _ _ _ hB).trans rfl
  obtain ⟨h1, h2⟩ := h
  rcases h2 with ⟨rfl, h0⟩ | ⟨b, cap, cur, rfl, hb, hh, hle, hcm, hcs, htake⟩
  · have hrow : row = [] := List.eq_nil_of_length_eq_zero h0
    subst hrow
    have HIF : Calls Try.prog 68 #[.slice none 0 0, .func (.func 62) #[] #[.pointer (some ⟨B, 0, none⟩)]] w fun e w' => e = .returned (.int .i64 (-1)) ∧ w' = w := by
      clear h1 hB hne hcell
      go_enter Try.func68, Try.ntmps68
      go_wp2_with fail
      go_loopw [8] (fun i wr => i = .int .i64 0 ∧ wr = w) (fun _ _ => 0)
      case atStart => exact ⟨rfl, rfl⟩
      case round =>
        obtain ⟨rfl, rfl⟩ := hrel
        go_wp2_with fail
        go_ret
        exact ⟨rfl, rfl⟩
    have HI := Lib.hid HIF
    clear HIF h1 hB hne hcell
    go_enter Try.func61, Try.ntmps61
    go_wp2_with fail
    refine HI.out.mono ?_
    rintro e w' ⟨rfl, rfl⟩
    go_wp2_with fail
    go_ret
    exact ⟨_, rfl, rfl, ⟨by simp, .inl ⟨rfl, rfl⟩⟩, Fr.refl _ _⟩
  · have hBb : B ≠ b := by simpa [Value.ownBlock] using hne
    have hblt := (Array.getElem?_eq_some_iff.1 hB).1
    have eg : ∀ args w, (callFunc 62 args).run Try.prog w = .ok (.enter 62 args) w := enters_of Try.func62 (by kernel_rfl) rfl
    obtain ⟨d, hd⟩ : ∃ d : Array Int, d = (row.map fun (k : Nat) => (k : Int)).toArray := ⟨_, rfl⟩
    have hds : d.size = row.length := by rw [hd]; simp
    have hcur : ∀ j, j < d.size → cur[j]? = some (Value.int .i64 d[j]!) := fun j hj => by
      have h3 : (cur.toList.take (row.length * 1))[j]? = cur.toList[j]? := by rw [List.getElem?_take, if_pos (by omega)]
      rw [htake, List.getElem?_map] at h3
      rw [getElem!_pos d j hj]
      have h4 : d[j] = ((row[j]'(by omega) : Nat) : Int) := by simp [hd]
      rw [h4, ← Array.getElem?_toList, ← h3, List.getElem?_eq_getElem (by omega)]
      rfl
    have hH : Sort.Holds (Value.int .i64) w b 0 d := fun j hj => ⟨by rw [cell_of_row w b (0 + j) _ _ _ hh, Nat.zero_add]; exact hcur j hj, frozen_of_row w b _ _ _ hh⟩
    have hcon := AnyE.slices_DeleteFunc del_laid (Value.int .i64) (fun _ => rfl) (fun x => x == (n : Int)) 62 #[.pointer (some ⟨B, 0, none⟩)] eg 0 Try.zeroValue3 b 0 cap d w
      (fun W x hb => drop1_any W n B ((hb.cell (p := ⟨B, 0, none⟩) hblt).trans hcell) x)
      (fun k os dk x _ => drop1_any _ n B (by
        unfold Go.Proofs.sortWorld
        rw [Sort.cell?_grow _ _ _ (by show B < (Sort.putRow _ _ _ _ _).heap.size; rw [Sort.size_putRow]; exact hblt), Sort.cell?_putRow_other _ _ b 0 _ _ (Or.inl hBb)]
        exact hcell) x) hH (by omega) (by omega)
    change Calls Try.prog 61 _ _ _ at hcon
    have hfl : (d.toList.filter fun x => !(x == (n : Int))) = (row.filter (· != n)).map fun (k : Nat) => (k : Int) := by
      rw [hd]
      simp only [List.filter_map]
      congr 1
      refine List.filter_congr fun x _ => ?_
      simp only [bne, Function.comp]
      congr 1
      rw [Bool.eq_iff_iff, beq_iff_eq, beq_iff_eq]
      omega
    rw [hfl, hds] at hcon
    refine hcon.mono ?_
    rintro e w' ⟨rfl, q, rfl⟩
    have hlen : (row.filter (· != n)).length ≤ row.length := List.length_filter_le _ _
    obtain ⟨d', hd'⟩ : ∃ d' : Array Int, d' = (((row.filter (· != n)).map fun (k : Nat) => (k : Int)) ++ List.replicate (row.length - ((row.filter (· != n)).map fun (k : Nat) => (k : Int)).length) 0).toArray := ⟨_, rfl⟩
    rw [← hd']
    have hds' : d'.size = row.length := by rw [hd']; simp; omega
    have hH' : Sort.Holds (Value.int .i64) (Sort.putRow (Value.int .i64) (Sort.ahead w q) b 0 d') b 0 d' := Sort.holds_putRow _ _ b 0 d d' (Sort.holds_ahead _ w q b 0 d hH) (by omega)
    have hpr : ∃ cur', (Sort.putRow (Value.int .i64) (Sort.ahead w q) b 0 d').heap[b]? = some (.cells cur' 3 (0, 0)) ∧ cur'.size = cur.size := by
      unfold Sort.putRow Sort.mapBlock
      have e : (Sort.ahead w q).heap[b]? = some (.cells cur 3 (0, 0)) := hh
      refine ⟨Sort.putCells (Value.int .i64) 0 d' cur, ?_, by simp [Sort.putCells]⟩
      simp only [Array.getElem?_modify]
      rw [if_pos trivial, e]
      rfl
    obtain ⟨cur', hh', hcs'⟩ := hpr
    refine ⟨_, rfl, rfl, ⟨by simp, .inr ⟨b, cap, cur', by simp, hb, hh', by omega, hcm, by omega, ?_⟩⟩, ?_⟩
    · refine List.ext_getElem? fun j => ?_
      rw [List.getElem?_take]
      by_cases hj : j < (row.filter (· != n)).length
      · rw [if_pos (by omega), List.getElem?_map, List.getElem?_eq_getElem hj]
        have h5 := (hH' j (by omega)).1
        rw [cell_of_row _ b (0 + j) _ _ _ hh', Nat.zero_add] at h5
        rw [Array.getElem?_toList, h5, getElem!_pos d' j (by omega)]
        congr 2
        simp only [hd']
        rw [List.getElem_toArray, List.getElem_append_left (by simpa using hj), List.getElem_map]
      · rw [if_neg (by omega), List.getElem?_eq_none (by simpa using hj)]
    · refine ⟨rfl, rfl, rfl, ?_, fun k _ hk => ?_⟩
      · rw [Sort.size_putRow]; exact Nat.le_refl _
      · rw [putRow_heap]
        · rfl
        · simpa [Value.ownBlock] using hk
end Go.Proofs.Ytlkieepfjhiflaa
