/- The abstract machine: operations: new memory, literals, append. The abstract machine: operations: picks, maps, slices of a length, comparisons of structs and interfaces. The abstract machine: an operation that is no call: what it asks suffices. The abstract machine: states seen through other handles; contracts; calls. The abstract machine: calls by contract. The abstract machine: calls by contract: what they ask suffices. -/
import Derived.Test.YtbpcbhmdjphodaaA1
import Derived.Great.BuildSlice
import Derived.Maps.AppendAt
import Derived.Laws.StructEq
set_option linter.all false

namespace Go.Proofs.Ytbpcbhmdjphodaa.am
open Go
set_option linter.unusedSimpArgs false
section
variable {P : Program} {T : Ty} {o : Oper} {m : Mem} {nh : Nat} {ev : Operand → Option AV} {K : KK}

theorem l_alloc (hT : TOk P T) {t : Nat} {i : TyI} (ho : o.op = .alloc t) (ht : lk T t = some i) (hK : K (.ptr nh 0) [] [(nh, some (.cells t (zeros i.zero)))]) : LOk P o m nh ev K := by
  refine ⟨_, _, _, hK, by simp, by simp, fun g w m' ρ hm hn hrd hev => ?_⟩
  obtain ⟨z, h1, h2, h3, h4⟩ := run_zero hT ht w
  refine LRes.new hm hn (.cells z.cells t) (.blk w.heap.size) (fun b e => by cases e; rfl) _ (.pointer (some ⟨w.heap.size, 0, none⟩)) ?_ ⟨_, _, rfl, heap_alloc_new w _, by rw [h2]; exact cells_zeros _ _ _⟩ (.ptr (gset_same ..))
  simp [execOp, ho, Instr.alloc, h1, newVar, newRow]
theorem l_box {t : Nat} {x : Operand} {a : AV} {cs : List AV} (ho : o.op = .box t x) (hx : ev x = some a) (hc : a.cells = some cs) (h1 : cs.all AV.one = true) (hK : K (.ptr nh 0) [] [(nh, some (.cells t cs))]) : LOk P o m nh ev K := by
  refine ⟨_, _, _, hK, by simp, by simp, fun g w m' ρ hm hn hrd hev => ?_⟩
  have hg := grow_alloc (w := w) hm.xlt hn (.cells (ρ x).cells t) (l := .blk w.heap.size) (fun b e => by cases e; rfl)
  refine LRes.new hm hn (.cells (ρ x).cells t) (.blk w.heap.size) (fun b e => by cases e; rfl) _ (.pointer (some ⟨w.heap.size, 0, none⟩)) ?_ ⟨_, _, rfl, heap_alloc_new w _, (Rep.cells ((hev _ _ hx).grow hg) hc h1)⟩ (.ptr (gset_same ..))
  simp [execOp, ho, Instr.box, newVar, newRow]

theorem fill_cons {place : Nat → Option (Nat × Nat)} {i off size : Nat} {v : Value} {cells : Array Value} {rest : List (Nat × Value)} (hp : place i = some (off, size)) (hs : v.cells.size = size) (hb : off + size ≤ cells.size) :
    Instr.fill place cells ((i, v) :: rest) = Instr.fill place (cells.toList.take off ++ v.cells.toList ++ cells.toList.drop (off + v.cells.size)).toArray rest := by
  obtain ⟨g1, g2⟩ := Great.foldl_set off v.cells.toList 0 cells
  have e : v.cells.zipIdx.foldl (fun cs (x : Value × Nat) => cs.setIfInBounds (off + x.2) x.1) cells = (cells.toList.take off ++ v.cells.toList ++ cells.toList.drop (off + v.cells.size)).toArray := by
    have e0 : v.cells.zipIdx.foldl (fun cs (x : Value × Nat) => cs.setIfInBounds (off + x.2) x.1) cells = (v.cells.toList.zipIdx 0).foldl (fun cs (x : Value × Nat) => cs.setIfInBounds (off + x.2) x.1) cells := by
      rw [← Array.foldl_toList, Array.toList_zipIdx]
    rw [e0]
    apply Array.ext_getElem?
    intro k
    rw [g2 k]
    simp only [List.getElem?_toArray, List.append_assoc, Nat.add_zero, Array.length_toList]
    by_cases k1 : k < off
    · rw [if_neg (by omega), List.getElem?_append_left (by simp; omega), List.getElem?_take, if_pos k1]; simp
    · rw [List.getElem?_append_right (by simp; omega), List.length_take, Array.length_toList, Nat.min_eq_left (by omega)]
      by_cases k2 : k - off < v.cells.size
      · rw [if_pos (by omega), List.getElem?_append_left (by rw [Array.length_toList]; omega)]
      · rw [if_neg (by omega), List.getElem?_append_right (by rw [Array.length_toList]; omega), List.getElem?_drop, Array.length_toList, Array.getElem?_toList]
        congr 1; omega
  conv => lhs; unfold Instr.fill
  simp only [hp]
  rw [if_neg (by simp; omega)]
  rw [← e]
/-- the values of parts -/
def vals (ρ : Operand → Value) (ps : List (Nat × Operand)) : List (Nat × Value) := ps.map fun p => (p.1, ρ p.2)
theorem fillS_ok {g : Gh} {w : World} {ρ : Operand → Value} {fs : List (Nat × Nat)} {place : Nat → Option (Nat × Nat)} (hp : ∀ (i ft off : Nat) (ti : TyI), fs[i]? = some (ft, off) → lk T ft = some ti → place i = some (off, ti.size)) (hev : ∀ x b, ev x = some b → Rep g w (ρ x) b) :
    ∀ (ps : List (Nat × Operand)) (l l' : List AV) (cells : Array Value), Cells g w cells l → fillS T fs l (ps.map fun p => (p.1, ev p.2)) = some l' → ∃ cells', Instr.fill place cells (vals ρ ps) = some cells' ∧ Cells g w cells' l'
  | [], l, l', cells, hc, h => by cases h; exact ⟨cells, rfl, hc⟩
  | (i, x) :: ps, l, l', cells, hc, h => by
    simp only [List.map_cons] at h
    unfold fillS at h
    split at h
    case h_2 => cases h
    rename_i ft off a e1 e2
    split at h
    case h_2 => cases h
    rename_i ti cs e3 e4
    cases hb : (Nat.beq cs.length ti.size && cs.all AV.one && Nat.ble (off + cs.length) l.length) with
    | false => rw [hb] at h; cases h
    | true =>
      rw [hb, cond_true] at h
      simp only [Bool.and_eq_true] at hb
      obtain ⟨⟨c1, c2⟩, c3⟩ := hb
      have c1 := Nat.eq_of_beq_eq_true c1
      have c3 := Nat.le_of_ble_eq_true c3
      have hcs := (hev x a e2).cells e4 c2
      have q1 := hcs.1
      have q2 := hc.1
      obtain ⟨cells', w1, w2⟩ := fillS_ok hp hev ps _ l' _ (hc.put hcs off c3) h
      refine ⟨cells', ?_, w2⟩
      rw [show vals ρ ((i, x) :: ps) = (i, ρ x) :: vals ρ ps from rfl, fill_cons (hp i ft off ti e1 e3) (by omega) (by omega)]
      exact w1
theorem fillA_ok {g : Gh} {w : World} {ρ : Operand → Value} {size : Nat} (hev : ∀ x b, ev x = some b → Rep g w (ρ x) b) :
    ∀ (ps : List (Nat × Operand)) (l l' : List AV) (cells : Array Value), Cells g w cells l → fillA size l (ps.map fun p => (p.1, ev p.2)) = some l' → ∃ cells', Instr.fill (fun i => some (i * size, size)) cells (vals ρ ps) = some cells' ∧ Cells g w cells' l'
  | [], l, l', cells, hc, h => by cases h; exact ⟨cells, rfl, hc⟩
  | (i, x) :: ps, l, l', cells, hc, h => by
    simp only [List.map_cons] at h
    unfold fillA at h
    split at h
    case h_2 => cases h
    rename_i a e2
    split at h
    case h_2 => cases h
    rename_i cs e4
    cases hb : (Nat.beq cs.length size && cs.all AV.one && Nat.ble (i * size + cs.length) l.length) with
    | false => rw [hb] at h; cases h
    | true =>
      rw [hb, cond_true] at h
      simp only [Bool.and_eq_true] at hb
      obtain ⟨⟨c1, c2⟩, c3⟩ := hb
      have c1 := Nat.eq_of_beq_eq_true c1
      have c3 := Nat.le_of_ble_eq_true c3
      have hcs := (hev x a e2).cells e4 c2
      have q1 := hcs.1
      have q2 := hc.1
      obtain ⟨cells', w1, w2⟩ := fillA_ok hev ps _ l' _ (hc.put hcs (i * size) c3) h
      refine ⟨cells', ?_, w2⟩
      rw [show vals ρ ((i, x) :: ps) = (i, ρ x) :: vals ρ ps from rfl, fill_cons (off := i * size) (size := size) rfl (by omega) (by omega)]
      exact w1
theorem mapM_sizes (hT : TOk P T) (w : World) : ∀ (fds : List Field), (∀ f ∈ fds, (lk T f.type).isSome = true) → ∃ places : List (Nat × Nat), (fds.mapM fun (f : Field) => (do pure (f.offset, ← sizeOf f.type) : Sem (Nat × Nat))).run P w = .ok places w ∧
    ∀ (i : Nat) (f : Field) (ti : TyI), fds[i]? = some f → lk T f.type = some ti → places[i]? = some (f.offset, ti.size)
  | [], _ => ⟨[], by simp, fun i f ti h => by simp at h⟩
  | f :: fds, h => by
    obtain ⟨places, h1, h2⟩ := mapM_sizes hT w fds (fun f hf => h f (by simp [hf]))
    obtain ⟨ti, e⟩ := Option.isSome_iff_exists.1 (h f (by simp))
    refine ⟨(f.offset, ti.size) :: places, by simp only [List.mapM_cons, Sem.run_bind, run_size hT e, Result.andThen_ok, Sem.run_pure, h1], fun i f' ti' q1 q2 => ?_⟩
    cases i with
    | zero => simp at q1; subst q1; rw [e] at q2; cases q2; rfl
    | succ i => exact h2 i f' ti' (by simpa using q1) q2
theorem l_buildS (hT : TOk P T) {t : Nat} {ps : Array (Nat × Operand)} {fs : List (Nat × Nat)} {a b : Nat} {z : List Z} {q : Bool} {l : List AV} (ho : o.op = .build t ps) (ht : lk T t = some ⟨.struct fs, a, b, z, q⟩) (hfs : fs.all (fun p => (lk T p.1).isSome) = true)
    (hf : fillS T fs (zeros z) (parts ev ps) = some l) (hK : K (.agg l) [] []) : LOk P o m nh ev K := by
  refine LOk.pure _ _ hK (by simp) fun g w m' ρ hm hrd hev => ?_
  obtain ⟨u, u1, u2, _⟩ := run_und hT ht w
  obtain ⟨fds, rfl, rfl⟩ := D_struct u2
  obtain ⟨zv, z1, z2, z3, z4⟩ := run_zero hT ht w
  obtain ⟨places, p1, p2⟩ := mapM_sizes hT w fds.toList (fun f hf => by
    have := List.all_eq_true.1 hfs (f.type, f.offset) (List.mem_map.2 ⟨f, hf, rfl⟩)
    exact this)
  obtain ⟨cells', c1, c2⟩ := fillS_ok (T := T) (place := (places.toArray[·]?)) (fun i ft off ti q1 q2 => by
    obtain ⟨fd, r1, r2, r3⟩ := field_at q1
    have := p2 i fd ti (by simpa using r1) (by rw [r2]; exact q2)
    rw [r3] at this
    simpa using this) hev ps.toList _ l _ (cells_zeros g w z) hf
  refine ⟨_, ?_, c2.agg⟩
  have e : (Array.map (fun x => (x.fst, ρ x.snd)) ps).toList = vals ρ ps.toList := by simp [vals]
  simp only [execOp, ho, Instr.build, Sem.run_bind, z1, Result.andThen_ok, u1, Array.mapM_eq_mapM_toList, Sem.run_map, p1, Sem.run_pure, z2]
  rw [e, c1]
  rfl
theorem l_buildA (hT : TOk P T) {t n e : Nat} {te : TyI} {ps : Array (Nat × Operand)} {a b : Nat} {z : List Z} {q : Bool} {l : List AV} (ho : o.op = .build t ps) (ht : lk T t = some ⟨.array n e, a, b, z, q⟩) (he : lk T e = some te)
    (hf : fillA te.size (zeros z) (parts ev ps) = some l) (hK : K (.agg l) [] []) : LOk P o m nh ev K := by
  refine LOk.pure _ _ hK (by simp) fun g w m' ρ hm hrd hev => ?_
  obtain ⟨u, u1, u2, _⟩ := run_und hT ht w
  obtain rfl := D_array u2
  obtain ⟨zv, z1, z2, z3, z4⟩ := run_zero hT ht w
  obtain ⟨cells', c1, c2⟩ := fillA_ok hev ps.toList _ l _ (cells_zeros g w z) hf
  refine ⟨_, ?_, c2.agg⟩
  have e : (Array.map (fun x => (x.fst, ρ x.snd)) ps).toList = vals ρ ps.toList := by simp [vals]
  simp only [execOp, ho, Instr.build, Sem.run_bind, z1, Result.andThen_ok, u1, Sem.run_pure, z2, run_size hT he]
  rw [e, c1]
  rfl
theorem rowsOf_ok {g : Gh} {w : World} {ρ : Operand → Value} {size : Nat} (hev : ∀ x b, ev x = some b → Rep g w (ρ x) b) : ∀ (ps : List (Nat × Operand)) (k : Nat) (rows : List (List Tr)), rowsOf size k (ps.map fun p => (p.1, ev p.2)) = some rows →
    vals ρ ps = ((ps.map fun p => ρ p.2).zipIdx k).map (fun x => (x.2, x.1)) ∧ rows.length = ps.length ∧ (∀ v ∈ ps.map (fun p => ρ p.2), v.cells.size = size) ∧ (∀ r ∈ rows, r.length = size) ∧
      ∀ (i : Nat) (t : Tr), rows.flatten[i]? = some t → ∃ c, ((ps.map fun p => ρ p.2).flatMap fun v => v.cells.toList)[i]? = some c ∧ RepT (okB g w) w c t
  | [], k, rows, h => by cases h; exact ⟨rfl, rfl, by simp, by simp, fun i t h => by simp at h⟩
  | (i, x) :: ps, k, rows, h => by
    simp only [List.map_cons] at h
    unfold rowsOf at h
    cases hb : Nat.beq i k with
    | false => rw [hb] at h; cases h
    | true =>
      rw [hb, cond_true] at h
      have hik := Nat.eq_of_beq_eq_true hb
      subst hik
      split at h
      case h_2 => cases h
      rename_i a e1
      split at h
      case h_2 => cases h
      rename_i cs e2
      cases hb2 : Nat.beq cs.length size with
      | false => rw [hb2] at h; cases h
      | true =>
        rw [hb2, cond_true] at h
        have hcs := Nat.eq_of_beq_eq_true hb2
        split at h
        case h_2 => cases h
        rename_i l e3
        cases h
        obtain ⟨h1, h2, h3, h4, h5⟩ := rowsOf_ok hev ps _ l e3
        obtain ⟨w1, w2⟩ := (hev x a e1).trCells e2
        refine ⟨?_, by simp [h2], fun v hv => ?_, fun r hr => ?_, fun j t hj => ?_⟩
        · show (i, ρ x) :: vals ρ ps = _
          rw [h1]; rfl
        · simp only [List.map_cons, List.mem_cons] at hv
          rcases hv with rfl | hv
          · omega
          · exact h3 v hv
        · simp only [List.mem_cons] at hr
          rcases hr with rfl | hr
          · exact hcs
          · exact h4 r hr
        · simp only [List.map_cons, List.flatMap_cons]
          rw [List.flatten_cons] at hj
          by_cases k1 : j < cs.length
          · rw [List.getElem?_append_left k1] at hj
            rw [List.getElem?_append_left (by rw [Array.length_toList]; omega), Array.getElem?_toList]
            exact w2 j t hj
          · rw [List.getElem?_append_right (by omega)] at hj
            rw [List.getElem?_append_right (by rw [Array.length_toList]; omega), Array.length_toList, w1]
            exact h5 _ t hj
theorem l_buildSlice (hT : TOk P T) {t e len : Nat} {te : TyI} {ps : Array (Nat × Operand)} {a b : Nat} {z : List Z} {q : Bool} {rows : List (List Tr)} (ho : o.op = .buildSlice t len ps) (ht : lk T t = some ⟨.slice e, a, b, z, q⟩) (he : lk T e = some te)
    (hr : rowsOf te.size 0 (parts ev ps) = some rows) (hl : rows.length = len) (h1 : 1 ≤ te.size) (h2 : len * te.size ≤ 16777216) (h3 : len * te.bytes ≤ 140737488351232) (h0 : 1 ≤ len) (hK : K (.sl nh len) [] [(nh, some (.vec e te.size te.bytes rows))]) : LOk P o m nh ev K := by
  refine ⟨_, _, _, hK, by simp, by simp, fun g w m' ρ hm hn hrd hev => ?_⟩
  obtain ⟨ti, u, zt, _, u2, u3, _⟩ := hT.info ht
  obtain rfl := D_slice u3
  obtain ⟨ti', u', z', i1, _, _, i4, _, i6, i7, i8⟩ := hT.info he
  obtain ⟨q1, q2, q3, q4, q5⟩ := rowsOf_ok hev ps.toList 0 rows hr
  have e1 : (Array.map (fun x => (x.fst, ρ x.snd)) ps).toList = vals ρ ps.toList := by simp [vals]
  have hpos : 0 < len * te.size := Nat.mul_pos (by omega) (by omega)
  have hz := (zcells_cells i7).1
  have hfl := Great.fill_whole (s := te.size) (by omega) (ps.toList.map fun p => ρ p.2) ((Array.range (len * te.size)).map (z'.cells[· % z'.cells.size]!)) q3 (by simp; rw [← hl, q2]; simp)
  have hrun := run_buildSlice (P := P) w t e len (Array.map (fun x => (x.fst, ρ x.snd)) ps) _ ti' z' u2 i1 i6 (by rw [i4]; omega) (by rw [i4]; omega) (by rw [i4, e1, q1]; exact hfl)
  have hloc : ∀ b, Loc.b (.row w.heap.size len) = some b → b = w.heap.size := fun b e => by cases e; rfl
  have hg := grow_alloc (w := w) hm.xlt hn (.cells ((ps.toList.map fun p => ρ p.2).flatMap fun v => v.cells.toList).toArray e) hloc
  have hm63 : len ≤ 9223372036854775807 := by
    have : len * 1 ≤ len * te.size := Nat.mul_le_mul_left _ h1
    omega
  have hsz : ((ps.toList.map fun p => ρ p.2).flatMap fun v => v.cells.toList).length = len * te.size := by
    have : ∀ (l : List Value), (∀ v ∈ l, v.cells.size = te.size) → (l.flatMap fun v => v.cells.toList).length = l.length * te.size := by
      intro l hl
      induction l with
      | nil => simp
      | cons v l ih => rw [List.flatMap_cons, List.length_append, Array.length_toList, hl v (by simp), ih (fun v hv => hl v (by simp [hv])), List.length_cons, Nat.succ_mul]; omega
    rw [this _ q3, ← hl, q2]; simp
  generalize ((ps.toList.map fun p => ρ p.2).flatMap fun v => v.cells.toList) = cl at *
  refine LRes.new hm hn (.cells cl.toArray e) (.row w.heap.size len) hloc _ (.slice (some ⟨w.heap.size, 0, none⟩) len len) ?_ ⟨by rw [hl]; omega, by omega, .inr ⟨_, len, cl.toArray, rfl, heap_alloc_new w _, by omega, hm63, by simpa using hsz, q4, fun i t hi => ?_⟩⟩ (.sl (gset_same ..) (Nat.le_refl _))
  · simp only [execOp, ho, Sem.run_bind, hrun, Result.andThen_ok]
    rfl
  · obtain ⟨c, c1, c2⟩ := q5 i t hi
    exact ⟨c, by simpa using c1, c2.grow hg⟩
theorem l_nilCheckP {x : Operand} {hd off : Nat} {b : Blk} (ho : o.op = .nilCheck x) (hx : ev x = some (.ptr hd off)) (hb : m hd = some b) (hK : K (.ptr hd off) [(hd, b)] []) : LOk P o m nh ev K := by
  refine LOk.pure _ _ hK (by simpa using hb) fun g w m' ρ hm hrd hev => ?_
  obtain ⟨l, g1, g2⟩ := hm.blk hd b (hrd (hd, b) (by simp))
  have hr := hev _ _ hx
  generalize hv : ρ x = v at hr
  have hr' := hr
  cases hr with
  | ptrD e => rw [g1] at e; cases e
  | ptr e => exact ⟨_, by simp [execOp, ho, hv], hr'⟩
theorem l_nilCheckE {x : Operand} {cs : List Tr} (ho : o.op = .nilCheck x) (hx : ev x = some (.ept cs)) (hK : K (.ept cs) [] []) : LOk P o m nh ev K := by
  refine LOk.pure _ _ hK (by simp) fun g w m' ρ hm hrd hev => ?_
  have hr := hev _ _ hx
  obtain ⟨b, of, f, e, _⟩ := hr.ept_inv
  exact ⟨ρ x, by simp [execOp, ho, e], hr⟩
theorem l_nilCheckF {x : Operand} {f : Nat} {l : List AV} (ho : o.op = .nilCheck x) (hx : ev x = some (.fn f l)) (hK : K (.fn f l) [] []) : LOk P o m nh ev K := by
  refine LOk.pure _ _ hK (by simp) fun g w m' ρ hm hrd hev => ?_
  have hr := hev _ _ hx
  generalize hv : ρ x = v at hr
  have hr' := hr
  cases hr with
  | fn h1 h2 => exact ⟨_, by simp [execOp, ho, hv], hr'⟩
theorem evs_ok {g : Gh} {w : World} {ρ : Operand → Value} (hev : ∀ x b, ev x = some b → Rep g w (ρ x) b) : ∀ (xs : List Operand) (l : List AV), evs ev xs = some l → (xs.map ρ).length = l.length ∧ ∀ (i : Nat) (c : Value) (a : AV), (xs.map ρ)[i]? = some c → l[i]? = some a → Rep g w c a
  | [], l, h => by cases h; exact ⟨rfl, fun i c a h => by simp at h⟩
  | x :: r, l, h => by
    unfold evs at h
    split at h
    · rename_i a l' e1 e2
      cases h
      obtain ⟨h1, h2⟩ := evs_ok hev r l' e2
      refine ⟨by simpa using h1, fun i c b q1 q2 => ?_⟩
      cases i with
      | zero => simp at q1 q2; subst q1; subst q2; exact hev _ _ e1
      | succ i => exact h2 i c b (by simpa using q1) (by simpa using q2)
    · cases h
theorem l_makeFunc {f : Nat} {fs cs : Array Operand} {l : List AV} (ho : o.op = .makeFunc (.func f) fs cs) (hf : fs.size = 0) (hl : evs ev cs.toList = some l) (hK : K (.fn f l) [] []) : LOk P o m nh ev K := by
  refine LOk.pure _ _ hK (by simp) fun g w m' ρ hm hrd hev => ?_
  obtain ⟨h1, h2⟩ := evs_ok hev _ _ hl
  have : fs = #[] := Array.eq_empty_of_size_eq_zero hf
  subst this
  refine ⟨.func (.func f) #[] (cs.map ρ), ?_, .fn (by simpa using h1) fun i c a q1 q2 => h2 i c a (by simpa using q1) q2⟩
  simp [execOp, ho, Instr.makeFunc]
/-- the appended rows' cells, wherever they lie -/
theorem srcRows_ok {g : Gh} {w : World} {m m' : Mem} (hm : MSt g w m') {n : Nat} (hn : 0 < n) {y : AV} {v : Value} {news : List (List Tr)} {rd : List (Nat × Blk)} (h : srcRows n m y = some (news, rd)) (hrd : ∀ p ∈ rd, m' p.1 = some p.2) (hv : Rep g w v y) :
    (∀ r ∈ news, r.length = n) ∧ ∃ (ao : Option Addr) (c : Nat) (cl : List Value), v = .slice ao news.length c ∧ cl.length = news.length * n ∧ (∀ (j : Nat) (u : Value), cl[j]? = some u → ∃ b o, ao = some ⟨b, o, none⟩ ∧ w.cell? ⟨b, o + j, none⟩ = some u) ∧
      ∀ (j : Nat) (t : Tr), news.flatten[j]? = some t → ∃ u, cl[j]? = some u ∧ RepT (okB g w) w u t := by
  unfold srcRows at h
  split at h
  · cases h
    obtain ⟨rfl, _⟩ := val_inv hv
    exact ⟨by simp, none, 0, [], rfl, by simp, by simp, by simp⟩
  · rename_i n' B rows
    cases hb : Nat.beq n n' with
    | false => rw [hb] at h; cases h
    | true =>
      rw [hb, cond_true] at h
      cases h
      have := Nat.eq_of_beq_eq_true hb
      subst this
      obtain ⟨ao, cap, f, rfl, q1, q2, q3, q4, q5, q6⟩ := lst_inv hv.tr_inv
      have hrl : ∀ r ∈ news, r.length = n := fun r hr => by
        obtain ⟨i, hi⟩ := List.mem_iff_getElem?.1 hr
        exact (q5 i r hi).1
      refine ⟨hrl, ao, cap, ((List.range (news.length * n)).map fun k => f (k / n) (k % n)), rfl, by simp, fun j u hj => ?_, fun j t hj => ?_⟩
      · simp only [List.getElem?_map, Option.map_eq_some_iff] at hj
        obtain ⟨k, hk, rfl⟩ := hj
        have hlt : j < news.length * n := by have := (List.getElem?_eq_some_iff.1 hk).1; simpa using this
        rw [List.getElem?_range hlt] at hk; cases hk
        have hd : j / n < news.length := Nat.div_lt_of_lt_mul (by rw [Nat.mul_comm]; exact hlt)
        obtain ⟨_, b, o, e, _, hc⟩ := q5 (j / n) news[j / n] (by simp [hd])
        refine ⟨b, o, e, ?_⟩
        rw [← hc (j % n) (Nat.mod_lt _ hn)]
        congr 2
        have := Nat.div_add_mod j n
        rw [Nat.mul_comm] at this; omega
      · have hlt : j < news.length * n := by have := (List.getElem?_eq_some_iff.1 hj).1; rwa [len_flat news hrl] at this
        have hd : j / n < news.length := Nat.div_lt_of_lt_mul (by rw [Nat.mul_comm]; exact hlt)
        refine ⟨f (j / n) (j % n), by simp [List.getElem?_range hlt], q6 (j / n) news[j / n] _ t (by simp [hd]) ?_⟩
        have hfl : ∀ (rows : List (List Tr)) (j : Nat), (∀ r ∈ rows, r.length = n) → rows.flatten[j]? = (rows[j / n]?).bind fun r => r[j % n]? := by
          intro rows
          induction rows with
          | nil => intro j _; simp
          | cons r rs ih =>
            intro j hr
            have hr0 := hr r (by simp)
            rw [List.flatten_cons]
            by_cases k1 : j < n
            · rw [List.getElem?_append_left (by omega), Nat.div_eq_of_lt k1, Nat.mod_eq_of_lt k1]; rfl
            · rw [List.getElem?_append_right (by omega), hr0, ih (j - n) (fun r h => hr r (by simp [h]))]
              have e1 : j / n = (j - n) / n + 1 := by
                rw [← Nat.sub_add_cancel (show n ≤ j by omega), Nat.add_div_right _ hn]; simp
              have e2 : j % n = (j - n) % n := by rw [Nat.mod_eq_sub_mod (by omega)]
              rw [e1, e2]; rfl
        rw [hfl news j hrl] at hj
        simpa [hd] using hj
  · rename_i hd len
    split at h
    case h_2 => cases h
    rename_i e n' B rows em
    cases hb : (Nat.beq n n' && Nat.ble len rows.length) with
    | false => rw [hb] at h; cases h
    | true =>
      rw [hb, cond_true] at h
      cases h
      simp only [Bool.and_eq_true] at hb
      have := Nat.eq_of_beq_eq_true hb.1
      have hle := Nat.le_of_ble_eq_true hb.2
      subst this
      obtain ⟨l, g1, g2⟩ := hm.blk hd _ (hrd (hd, .vec e n B rows) (by simp))
      have g2' := g2
      obtain ⟨_, _, ⟨rfl, rfl⟩ | ⟨b, cap, cur, rfl, e1, e2, e3, e4, e5, e6⟩⟩ := g2'
      · rcases hv.sl_inv g1 with ⟨b, cap, e0, _, _⟩ | ⟨_, rfl, rfl⟩
        · cases e0
        · exact ⟨by simp, none, 0, [], rfl, by simp, by simp, by simp⟩
      · rcases hv.sl_inv g1 with ⟨b', cap', e0, e7, rfl⟩ | ⟨e0, _, _⟩
        · cases e0
          have hlt : (rows.take len).length = len := by rw [List.length_take]; omega
          have hcs : len * n ≤ cur.size := by rw [e4]; exact Nat.mul_le_mul_right _ (by omega)
          have hpre : ∀ j, j < len * n → rows.flatten[j]? = (rows.take len).flatten[j]? := fun j hj => by
            conv => lhs; rw [← List.take_append_drop len rows, List.flatten_append]
            rw [List.getElem?_append_left]
            rw [len_flat _ (fun r hr => e5 r (List.mem_of_mem_take hr)), hlt]; exact hj
          refine ⟨fun r hr => e5 r (List.mem_of_mem_take hr), some ⟨b, 0, none⟩, cap, cur.toList.take (len * n), by rw [hlt], by rw [hlt, List.length_take, Array.length_toList]; omega, fun j u hj => ⟨b, 0, rfl, ?_⟩, fun j t hj => ?_⟩
          · rw [heap_cell e1, Nat.zero_add]
            rw [List.getElem?_take] at hj
            split at hj
            · simpa using hj
            · cases hj
          · have hj' : j < len * n := by
              have := (List.getElem?_eq_some_iff.1 hj).1
              rwa [len_flat _ (fun r hr => e5 r (List.mem_of_mem_take hr)), hlt] at this
            obtain ⟨c, c1, c2⟩ := e6 j t (by rw [hpre j hj']; exact hj)
            exact ⟨c, by rw [List.getElem?_take, if_pos hj']; simpa using c1, c2⟩
        · cases e0
  · cases h
theorem append_own (hT : TOk P T) {g : Gh} {w : World} {t e ty : Nat} {te : TyI} {a b : Nat} {z : List Z} {q : Bool} (ht : lk T t = some ⟨.slice e, a, b, z, q⟩) (he : lk T e = some te) (hn : 1 ≤ te.size)
    {v : Value} {n : Nat} {xs : List Value} (hown : w.ownsRow 0 e te.size v n xs) {ao : Option Addr} {mm c : Nat} {cl : List Value} (hl : cl.length = mm * te.size)
    (hc : ∀ (j : Nat) (u : Value), cl[j]? = some u → ∃ b o, ao = some ⟨b, o, none⟩ ∧ w.cell? ⟨b, o + j, none⟩ = some u) (h1 : ∀ u ∈ cl, u.oneCell' = true) (h63 : n + mm ≤ 9223372036854775807) (hB : (n + mm) * te.bytes ≤ 140737488355328) :
    ∃ v' w', (Builtin.append_ #[t, t] ty #[v, .slice ao mm c]).run P w = .ok v' w' ∧ w'.ownsRow 0 e te.size v' (n + mm) (xs ++ cl) ∧ w.grownBy w' v.ownBlock ∧ (v'.ownBlock = v.ownBlock ∨ v'.ownBlock = some w.heap.size) := by
  obtain ⟨ti, u, zt, _, u2, u3, _⟩ := hT.info ht
  obtain rfl := D_slice u3
  obtain ⟨ti', u', z', i1, _, _, i4, i5, i6, i7, i8⟩ := hT.info he
  have hzs : z'.cells.size = te.size := by rw [(zcells_cells i7).1]; simpa using i8
  by_cases hm : mm = 0
  · subst hm
    have : cl = [] := List.eq_nil_of_length_eq_zero (by simpa using hl)
    subst this
    refine ⟨v, w, ?_, by simpa using hown, ⟨rfl, rfl, rfl, Nat.le_refl _, fun _ _ _ => rfl⟩, .inl rfl⟩
    obtain ⟨_, ⟨rfl, rfl⟩ | ⟨k, cap, cur, rfl, _, e1, e2, _⟩⟩ := hown
    · cases ao <;> simp [Builtin.append_, run_underlying u2, sizeOf, typeInfo, i1, Builtin.lenOf, Builtin.firstCells, loadCells, loadCellsFrom]
    · cases ao <;> simp [Builtin.append_, run_underlying u2, sizeOf, typeInfo, i1, Builtin.lenOf, Builtin.firstCells, loadCells, loadCellsFrom, e2, storeCells]
  · have hpos : 0 < cl.length := by rw [hl]; exact Nat.mul_pos (by omega) (by omega)
    obtain ⟨bk, of, rfl, _⟩ := hc 0 cl[0] (by simp)
    obtain ⟨v', w', r1, r2, r3, _, r5⟩ := run_append_own_at (P := P) w 0 t ty e ti' z' te.size te.bytes u2 i1 i6 i4 i5 hzs (by omega) v n xs hown ⟨bk, of, none⟩ mm c cl hl (fun j u hj => by
      obtain ⟨b2, o2, q1, q2⟩ := hc j u hj
      cases q1
      rw [add_mk]; exact q2) h1 (by simpa [maxLen] using h63) hB (Nat.zero_le _)
    exact ⟨v', w', r1, r2, r3, r5⟩
/-- what an append leaves: the old handle is dead, the new one lies in the old one's block or in a new one -/
theorem grow_append {g : Gh} {w w' : World} {m : Mem} (hm : MSt g w m) {nh : Nat} (hn : g nh = .un) {l l' : Loc} {hd : Option Nat} (hh : ∀ h, hd = some h → g h = .live l) (hw : w.grownBy w' l.b) (hd0 : hd = none → l.b = none) (hl' : ∀ b, l'.b = some b → l.b = some b ∨ w.heap.size ≤ b) :
    Grow g w ⟨fun h => if h = nh then .live l' else if hd = some h then .dead else g h, g.X, []⟩ w' := by
  refine ⟨hw.os, hw.tape, hw.output, hw.size, fun b hb => hw.block b hb.1 fun e => ?_, fun b hb => hw.block b (hm.xlt b hb) fun e => ?_, rfl, fun h h1 => ?_, fun h lx h1 => ?_, fun h lx b e1 e2 => ?_⟩
  · cases hd with
    | none => rw [hd0 rfl] at e; cases e
    | some h => exact hb.2.2 h l (hh h rfl) e.symm
  · cases hd with
    | none => rw [hd0 rfl] at e; cases e
    | some h => exact hm.xl h l b (hh h rfl) e.symm hb
  · show (if h = nh then HS.live l' else if hd = some h then HS.dead else g h) ≠ .un
    split
    · simp
    · split
      · simp
      · exact h1
  · change (if h = nh then HS.live l' else if hd = some h then HS.dead else g h) = .live lx at h1
    split at h1
    · rename_i e; subst e; exact .inr hn
    · split at h1
      · cases h1
      · exact .inl h1
  · change (if h = nh then HS.live l' else if hd = some h then HS.dead else g h) = .live lx at e1
    split at e1
    · cases e1
      rcases hl' b e2 with e3 | e3
      · cases hd with
        | none => rw [hd0 rfl] at e3; cases e3
        | some h => exact .inl ⟨h, l, hh h rfl, e3⟩
      · exact .inr e3
    · split at e1
      · cases e1
      · exact .inl ⟨h, lx, e1, e2⟩
theorem mst_append {g : Gh} {w w' : World} {m : Mem} (hm : MSt g w m) {nh : Nat} (hn : g nh = .un) {l l' : Loc} {hd : Option Nat} (hh : ∀ h, hd = some h → g h = .live l) (hw : w.grownBy w' l.b) (hd0 : hd = none → l.b = none) (hl' : ∀ b, l'.b = some b → l.b = some b ∨ w.heap.size ≤ b)
    (hlt : ∀ b, l'.b = some b → b < w'.heap.size) {bl : Blk} (hb : BRep ⟨fun h => if h = nh then .live l' else if hd = some h then .dead else g h, g.X, []⟩ w' l' bl) :
    MSt ⟨fun h => if h = nh then .live l' else if hd = some h then .dead else g h, g.X, []⟩ w' (updM m ((nh, some bl) :: (hd.toList.map fun h => (h, none)))) := by
  have hg := grow_append hm hn hh hw hd0 hl'
  have hdn : hd ≠ some nh := fun e => by have := hh nh e; rw [hn] at this; cases this
  refine ⟨fun h b' hb' => ?_, fun h h' l1 l2 b e1 e2 e3 e4 => ?_, fun h l1 b e1 e2 => ?_, fun b hb => Nat.lt_of_lt_of_le (hm.xlt b hb) hw.size, fun h l1 b e1 e2 hx => ?_⟩
  · by_cases e : h = nh
    · subst e
      have : b' = bl := by simpa [updM, lk] using hb'.symm
      subst this
      exact ⟨l', by simp, hb⟩
    · have e' : Nat.beq nh h = false := beq_ne fun q => e q.symm
      cases hd with
      | none =>
        have hb'' : m h = some b' := by simpa [updM, lk, e'] using hb'
        obtain ⟨l1, e1, e2⟩ := hm.blk h b' hb''
        refine ⟨l1, by simp [e, e1], e2.grow hg fun k hk => hw.block k (hm.lt h l1 k e1 hk) fun q => ?_⟩
        rw [hd0 rfl] at q; cases q
      | some hx =>
        by_cases e3 : hx = h
        · subst e3
          simp [updM, lk, e'] at hb'
        · have e3' : Nat.beq hx h = false := beq_ne e3
          have hb'' : m h = some b' := by simpa [updM, lk, e', e3'] using hb'
          obtain ⟨l1, e1, e2⟩ := hm.blk h b' hb''
          refine ⟨l1, by simp [e, e3, e1], e2.grow hg fun k hk => hw.block k (hm.lt h l1 k e1 hk) fun q => e3 ?_⟩
          exact hm.inj hx h l l1 k (hh hx rfl) e1 q.symm hk
  · change (if h = nh then HS.live l' else if hd = some h then HS.dead else g h) = .live l1 at e1
    change (if h' = nh then HS.live l' else if hd = some h' then HS.dead else g h') = .live l2 at e2
    split at e1
    · rename_i q
      cases e1
      split at e2
      · rename_i q'; rw [q, q']
      · split at e2
        · cases e2
        · rename_i q1 q2
          rcases hl' b e3 with e5 | e5
          · cases hd with
            | none => rw [hd0 rfl] at e5; cases e5
            | some hx => exact absurd (by rw [hm.inj hx h' l l2 b (hh hx rfl) e2 e5 e4]) q2
          · have := hm.lt h' l2 b e2 e4; omega
    · split at e1
      · cases e1
      · rename_i q1 q2
        split at e2
        · rename_i q'
          cases e2
          rcases hl' b e4 with e5 | e5
          · cases hd with
            | none => rw [hd0 rfl] at e5; cases e5
            | some hx => exact absurd (by rw [hm.inj hx h l l1 b (hh hx rfl) e1 e5 e3]) q2
          · have := hm.lt h l1 b e1 e3; omega
        · split at e2
          · cases e2
          · exact hm.inj h h' l1 l2 b e1 e2 e3 e4
  · change (if h = nh then HS.live l' else if hd = some h then HS.dead else g h) = .live l1 at e1
    split at e1
    · cases e1; exact hlt b e2
    · split at e1
      · cases e1
      · exact Nat.lt_of_lt_of_le (hm.lt h l1 b e1 e2) hw.size
  · change (if h = nh then HS.live l' else if hd = some h then HS.dead else g h) = .live l1 at e1
    split at e1
    · cases e1
      rcases hl' b e2 with e3 | e3
      · cases hd with
        | none => rw [hd0 rfl] at e3; cases e3
        | some h => exact hm.xl h l b (hh h rfl) e3 hx
      · have := hm.xlt b hx; omega
    · split at e1
      · cases e1
      · exact hm.xl h l1 b e1 e2 hx
theorem l_append (hT : TOk P T) {t : Nat} {x y : Operand} {ax ay : AV} (ho : o.op = .call { callee := .builtin .append, args := #[x, y], argTypes := #[t, t] }) (hx : ev x = some ax) (hy : ev y = some ay) (h : aappend T m nh t ax ay K) : LOk P o m nh ev K := by
  have hrun : ∀ (ρ : Operand → Value) (w w' : World) (v : Value), (Builtin.append_ #[t, t] o.type #[ρ x, ρ y]).run P w = .ok v w' → (execOp ρ o).run P w = .ok (.value v) w' := fun ρ w w' v e => by
    simp [execOp, ho, resolve, invoke, builtin, e]
  unfold aappend at h
  split at h
  case h_2 => exact h.elim
  rename_i e s1 s2 s3 s4 e1
  split at h
  case h_2 => exact h.elim
  rename_i te e2
  split at h
  case h_2 => exact h.elim
  rename_i news rd e3
  cases hb : (Nat.ble 1 te.size && Nat.ble 1 te.bytes) with
  | false => rw [hb] at e3; cases e3
  | true =>
  rw [hb, cond_true] at e3
  simp only [Bool.and_eq_true] at hb
  have hs1 := Nat.le_of_ble_eq_true hb.1
  have hb1 := Nat.le_of_ble_eq_true hb.2
  have one : ∀ {g : Gh} {w : World} {cl : List Value}, cl.length = news.length * te.size → (∀ r ∈ news, r.length = te.size) → (∀ (j : Nat) (t : Tr), news.flatten[j]? = some t → ∃ u, cl[j]? = some u ∧ RepT (okB g w) w u t) → ∀ u ∈ cl, u.oneCell' = true := by
    intro g w cl h1 h2 h3 u hu
    obtain ⟨j, hj⟩ := List.mem_iff_getElem?.1 hu
    have hlt : j < news.flatten.length := by rw [len_flat news h2, ← h1]; exact (List.getElem?_eq_some_iff.1 hj).1
    obtain ⟨u', c1, c2⟩ := h3 j news.flatten[j] (by simp [hlt])
    rw [hj] at c1; cases c1
    exact c2.one
  have rdm : ∀ p ∈ rd, m p.1 = some p.2 := by
    unfold srcRows at e3
    split at e3
    · cases e3; simp
    · rename_i n' B rows
      cases hbb : Nat.beq te.size n' with
      | true => rw [hbb] at e3; cases e3; simp
      | false => rw [hbb] at e3; cases e3
    · rename_i hd len
      split at e3
      · rename_i e' n' B rows em
        cases hbb : (Nat.beq te.size n' && Nat.ble len rows.length) with
        | true => rw [hbb] at e3; cases e3; simpa using em
        | false => rw [hbb] at e3; cases e3
      · cases e3
    · cases e3
  split at h
  · -- nil
    obtain ⟨hB, hK⟩ := h
    refine ⟨_, _, _, hK, rdm, by simp, fun g w m' ρ hm hn hrd hev => ?_⟩
    obtain ⟨hr, ao, c, cl, q1, q2, q3, q4⟩ := srcRows_ok hm (by omega) e3 hrd (hev _ _ hy)
    obtain ⟨hv, _⟩ := val_inv (hev _ _ hx)
    have h63 : 0 + news.length ≤ 9223372036854775807 := by
      have : news.length * 1 ≤ news.length * te.bytes := Nat.mul_le_mul_left _ hb1
      omega
    obtain ⟨v', w', r1, r2, r3, r4⟩ := append_own (ty := o.type) hT (g := g) e1 e2 hs1 (World.ownsRow_nil w 0 e te.size) q2 q3 (one q2 hr q4) h63 (by rw [Nat.zero_add]; omega)
    rw [Nat.zero_add, List.nil_append] at r2
    rw [← hv, ← q1] at r1
    obtain ⟨_, ⟨rfl, rn⟩ | ⟨k, cap, cur, rfl, _, k1, k2, k3, k4, k5⟩⟩ := r2
    · have hnil : news = [] := List.eq_nil_of_length_eq_zero rn
      subst hnil
      refine ⟨_, w', .inl ⟨_, hrun ρ w w' _ r1, .slN (by simp)⟩, mst_append (l := .nil) (l' := .nil) (hd := none) hm hn (by simp) r3 (by simp [Loc.b]) (by simp [Loc.b]) (by simp [Loc.b]) ⟨by simp, by omega, .inl ⟨rfl, rfl⟩⟩, grow_append hm (l := .nil) (l' := .nil) (hd := none) hn (by simp) r3 (by simp [Loc.b]) (by simp [Loc.b]), fun h h1 h2 => by simp [h1, h2]⟩
    · have hnew : k = w.heap.size := by
        rcases r4 with r4 | r4 <;> simp [Value.ownBlock] at r4
        exact r4
      have hG := grow_append hm (l := .nil) (l' := .row k cap) (hd := none) hn (by simp) r3 (by simp [Loc.b]) (fun b eb => .inr (by cases eb; omega))
      refine ⟨_, w', .inl ⟨_, hrun ρ w w' _ r1, .sl (b := k) (cap := cap) (by simp) k2⟩, mst_append (l := .nil) (l' := .row k cap) (hd := none) hm hn (by simp) r3 (by simp [Loc.b]) (fun b eb => .inr (by cases eb; omega)) (fun b eb => by cases eb; exact (Array.getElem?_eq_some_iff.1 k1).1)
        ⟨hB, by omega, .inr ⟨k, cap, cur, rfl, k1, k2, by simpa [maxLen] using k3, k4, hr, fun i t hi => ?_⟩⟩, hG, fun h h1 h2 => by simp [h1, h2]⟩
      obtain ⟨u, c1, c2⟩ := q4 i t hi
      refine ⟨u, ?_, c2.grow hG⟩
      rw [← k5, List.getElem?_take] at c1
      split at c1
      · simpa using c1
      · cases c1
  · -- own
    rename_i hd len
    split at h
    case h_2 => exact h.elim
    rename_i e' n B rows em
    obtain ⟨rfl, rfl, rfl, hle, hB, hne, hK⟩ := h
    refine ⟨_, _, _, hK, fun p hp => ?_, fun p hp => ?_, fun g w m' ρ hm hn hrd hev => ?_⟩
    · simp only [List.mem_cons] at hp
      rcases hp with rfl | hp
      · exact em
      · exact rdm p hp
    · simp only [List.mem_cons, List.not_mem_nil, or_false] at hp
      rcases hp with rfl | rfl
      · exact .inl rfl
      · exact .inr ⟨(hd, .vec e' te.size te.bytes rows), by simp, rfl⟩
    obtain ⟨hr, ao, c, cl, q1, q2, q3, q4⟩ := srcRows_ok hm (by omega) e3 (fun p hp => hrd p (by simp [hp])) (hev _ _ hy)
    obtain ⟨l, g1, g2⟩ := hm.blk hd _ (hrd (hd, .vec e' te.size te.bytes rows) (by simp))
    have h63 : len + news.length ≤ 9223372036854775807 := by
      have : (len + news.length) * 1 ≤ (len + news.length) * te.bytes := Nat.mul_le_mul_left _ hb1
      omega
    -- the old row
    obtain ⟨xs, hown, hlb, hxr, hxs⟩ : ∃ xs, w.ownsRow 0 e' te.size (ρ x) len xs ∧ (ρ x).ownBlock = l.b ∧ (∀ r ∈ rows, r.length = te.size) ∧ ∀ (j : Nat) (t : Tr), (rows.take len).flatten[j]? = some t → ∃ u, xs[j]? = some u ∧ RepT (okB g w) w u t := by
      obtain ⟨_, _, ⟨rfl, rfl⟩ | ⟨k, cap, cur, rfl, k1, k2, k3, k4, k5, k6⟩⟩ := g2
      · rcases (hev _ _ hx).sl_inv g1 with ⟨b, cap, e0, _, _⟩ | ⟨_, rfl, e5⟩
        · cases e0
        · rw [e5]; exact ⟨[], World.ownsRow_nil _ _ _ _, rfl, by simp, by simp⟩
      · rcases (hev _ _ hx).sl_inv g1 with ⟨b, cap', e0, e4, e5⟩ | ⟨e0, _⟩
        · cases e0
          rw [e5]
          have hcs : len * te.size ≤ cur.size := by rw [k4]; exact Nat.mul_le_mul_right _ (by omega)
          refine ⟨cur.toList.take (len * te.size), ⟨by simp; omega, .inr ⟨k, cap, cur, rfl, Nat.zero_le _, k1, e4, by simpa [maxLen] using k3, k4, rfl⟩⟩, rfl, k5, fun j t hj => ?_⟩
          have hlt : (rows.take len).length = len := by rw [List.length_take]; omega
          have hj' : j < len * te.size := by
            have := (List.getElem?_eq_some_iff.1 hj).1
            rwa [len_flat _ (fun r hr => k5 r (List.mem_of_mem_take hr)), hlt] at this
          obtain ⟨u, c1, c2⟩ := k6 j t (by
            rw [← hj]
            conv => lhs; rw [← List.take_append_drop len rows, List.flatten_append]
            rw [List.getElem?_append_left]
            rw [len_flat _ (fun r hr => k5 r (List.mem_of_mem_take hr)), hlt]; exact hj')
          exact ⟨u, by rw [List.getElem?_take, if_pos hj']; simpa using c1, c2⟩
        · cases e0
    obtain ⟨v', w', r1, r2, r3, r4⟩ := append_own (ty := o.type) hT (g := g) e1 e2 hs1 hown q2 q3 (one q2 hr q4) h63 (by omega)
    rw [← q1] at r1
    rw [hlb] at r3 r4
    have hxl := hown.1
    have hrows : ∀ r ∈ rows.take len ++ news, r.length = te.size := fun r h' => by
      simp only [List.mem_append] at h'
      rcases h' with h' | h'
      · exact hxr r (List.mem_of_mem_take h')
      · exact hr r h'
    obtain ⟨_, ⟨rfl, rn⟩ | ⟨k, cap, cur, rfl, _, k1, k2, k3, k4, k5⟩⟩ := r2
    · have hnil : news = [] := List.eq_nil_of_length_eq_zero (by omega)
      subst hnil
      have hl0 : len = 0 := by simpa using rn
      subst hl0
      exact ⟨_, w', .inl ⟨_, hrun ρ w w' _ r1, .slN (by simp)⟩, mst_append (l := l) (l' := .nil) (hd := some hd) hm hn (fun h e => by cases e; exact g1) r3 (by simp) (by simp [Loc.b]) (by simp [Loc.b]) ⟨by simp, by omega, .inl ⟨rfl, by simp⟩⟩, grow_append hm (l := l) (l' := .nil) (hd := some hd) hn (fun h e => by cases e; exact g1) r3 (by simp) (by simp [Loc.b]), fun h h1 h2 => by
        have : hd ≠ h := fun e => by rw [e] at g1; rw [h2] at g1; cases g1
        simp [h1, h2, this]⟩
    · have hnew : ∀ b, (Loc.row k cap).b = some b → l.b = some b ∨ w.heap.size ≤ b := fun b eb => by
        cases eb
        rcases r4 with r4 | r4
        · exact .inl (by rw [← r4]; rfl)
        · simp [Value.ownBlock] at r4; exact .inr (by omega)
      have hG := grow_append hm (l := l) (l' := .row k cap) (hd := some hd) hn (fun h e => by cases e; exact g1) r3 (by simp) hnew
      refine ⟨_, w', .inl ⟨_, hrun ρ w w' _ r1, .sl (b := k) (cap := cap) (by simp) k2⟩, mst_append (l := l) (l' := .row k cap) (hd := some hd) hm hn (fun h e => by cases e; exact g1) r3 (by simp) hnew (fun b eb => by cases eb; exact (Array.getElem?_eq_some_iff.1 k1).1)
        ⟨by rw [List.length_append, List.length_take, Nat.min_eq_left hle]; exact hB, by omega, .inr ⟨k, cap, cur, rfl, k1, by rw [List.length_append, List.length_take, Nat.min_eq_left hle]; exact k2, by simpa [maxLen] using k3, k4, hrows, fun i t hi => ?_⟩⟩, hG, fun h h1 h2 => by
          have : hd ≠ h := fun e => by rw [e] at g1; rw [h2] at g1; cases g1
          simp [h1, h2, this]⟩
      have hfl : (rows.take len).flatten.length = len * te.size := by
        rw [len_flat _ (fun r h' => hxr r (List.mem_of_mem_take h')), List.length_take, Nat.min_eq_left hle]
      rw [List.flatten_append] at hi
      have : ∃ u, (xs ++ cl)[i]? = some u ∧ RepT (okB g w) w u t := by
        by_cases c1 : i < len * te.size
        · rw [List.getElem?_append_left (by omega)] at hi
          rw [List.getElem?_append_left (by omega)]
          exact hxs i t hi
        · rw [List.getElem?_append_right (by omega), hfl] at hi
          rw [List.getElem?_append_right (by omega), hxl]
          exact q4 _ t hi
      obtain ⟨u, c1, c2⟩ := this
      refine ⟨u, ?_, c2.grow hG⟩
      rw [← k5, List.getElem?_take] at c1
      split at c1
      · simpa using c1
      · cases c1
  · exact h.elim
end
end Go.Proofs.Ytbpcbhmdjphodaa.am

namespace Go.Proofs.Ytbpcbhmdjphodaa.am
open Go
set_option linter.unusedSimpArgs false
section
variable {P : Program} {T : Ty} {o : Oper} {m : Mem} {nh : Nat} {ev : Operand → Option AV} {K : KK}
theorem l_pick {c x y : Operand} {b : Bool} (ho : o.op = .pick c x y) (hc : ev c = some (.tr (.v (.bool b)))) (h : cond b (match ev x with | some a => K a [] [] | none => False) (match ev y with | some a => K a [] [] | none => False)) : LOk P o m nh ev K := by
  cases b with
  | true =>
    rw [cond_true] at h
    split at h
    case h_2 => exact h.elim
    rename_i a e
    refine LOk.pure _ _ h (by simp) fun g w m' ρ hm hrd hev => ⟨_, ?_, hev _ _ e⟩
    simp [execOp, ho, (val_inv (hev _ _ hc)).1, asBool]
  | false =>
    rw [cond_false] at h
    split at h
    case h_2 => exact h.elim
    rename_i a e
    refine LOk.pure _ _ h (by simp) fun g w m' ρ hm hrd hev => ⟨_, ?_, hev _ _ e⟩
    simp [execOp, ho, (val_inv (hev _ _ hc)).1, asBool]
theorem l_makeMap {t : Nat} {kd : D} (ho : o.op = .makeMap t none) (hK : K (.mp nh) [] [(nh, some (.map kd []))]) : LOk P o m nh ev K := by
  refine ⟨_, _, _, hK, by simp, by simp, fun g w m' ρ hm hn hrd hev => ?_⟩
  refine LRes.new hm hn (.map #[] 0) (.blk w.heap.size) (fun b e => by cases e; rfl) _ (.map (some w.heap.size)) ?_ ⟨_, _, _, rfl, heap_alloc_new w _, rfl, by simp, by simp⟩ (.mp (gset_same ..))
  simp [execOp, ho, Instr.makeMap]
theorem l_makeSlice (hT : TOk P T) {t : Nat} {l c : Operand} {lz cz : Int} {k k' : IntKind} (ho : o.op = .makeSlice t l c) (hl : ev l = some (.tr (.v (.int k lz)))) (hc : ev c = some (.tr (.v (.int k' cz)))) (h : amakeSlice T nh t lz cz K) : LOk P o m nh ev K := by
  unfold amakeSlice at h
  split at h
  case h_2 => exact h.elim
  rename_i e s1 s2 s3 s4 e1
  split at h
  case h_2 => exact h.elim
  rename_i te e2
  cases hb : (Nat.ble 1 te.size && Nat.ble 1 te.bytes) with
  | false => rw [hb] at h; exact h.elim
  | true =>
  rw [hb, cond_true] at h
  simp only [Bool.and_eq_true] at hb
  have hs1 := Nat.le_of_ble_eq_true hb.1
  have hb1 := Nat.le_of_ble_eq_true hb.2
  obtain ⟨h0, h1, h2, hK⟩ := h
  refine ⟨_, _, _, hK, by simp, by simp, fun g w m' ρ hm hn hrd hev => ?_⟩
  obtain ⟨u, u1, u2, _⟩ := run_und hT e1 w
  obtain rfl := D_slice u2
  obtain ⟨ti', u', z', i1, _, _, i4, i5, i6, i7, i8⟩ := hT.info e2
  have hz := (zcells_cells i7).1
  have hzs : z'.cells.size = te.size := by rw [hz]; simpa using i8
  have hcb : cz ≤ 140737488351232 := by
    have : cz * 1 ≤ cz * te.bytes := Int.mul_le_mul_of_nonneg_left (by omega) (by omega)
    omega
  obtain ⟨hlv, _⟩ := val_inv (hev _ _ hl)
  obtain ⟨hcv, _⟩ := val_inv (hev _ _ hc)
  have w1 : IntKind.i64.wrap lz = lz := by
    simp only [IntKind.wrap, IntKind.signed, IntKind.bits, Bool.true_and, Nat.reduceSub, Int.reducePow]
    split
    · rename_i h; have := of_decide_eq_true h; omega
    · rename_i h; have : ¬ _ := fun e => h (decide_eq_true e); omega
  have w2 : IntKind.i64.wrap cz = cz := by
    simp only [IntKind.wrap, IntKind.signed, IntKind.bits, Bool.true_and, Nat.reduceSub, Int.reducePow]
    split
    · rename_i h; have := of_decide_eq_true h; omega
    · rename_i h; have : ¬ _ := fun e => h (decide_eq_true e); omega
  obtain ⟨cn, rfl⟩ := Int.eq_ofNat_of_zero_le (show 0 ≤ cz by omega)
  obtain ⟨ln, rfl⟩ := Int.eq_ofNat_of_zero_le h0
  have hlc : ln ≤ cn := by omega
  have hmul : cn * te.bytes ≤ 140737488351232 := by
    have : ((cn * te.bytes : Nat) : Int) ≤ 140737488351232 := by rw [Int.natCast_mul]; exact h2
    omega
  have hsm : ∀ n : Nat, n ≤ cn → ¬ ((ti'.bytes : Int) * (n : Int) > 281474976710656) := fun n hn => by
    have e3 : (ti'.bytes : Int) * (n : Int) = ((n * te.bytes : Nat) : Int) := by rw [i5, Int.natCast_mul, Int.mul_comm]
    have : n * te.bytes ≤ cn * te.bytes := Nat.mul_le_mul_right _ hn
    rw [e3]; omega
  generalize hcl : (Array.range (cn * te.size)).map (z'.cells[· % z'.cells.size]!) = cl
  have hclsz : cl.size = cn * te.size := by rw [← hcl]; simp
  have hloc : ∀ b, Loc.b (.row w.heap.size cn) = some b → b = w.heap.size := fun b e => by cases e; rfl
  have hg := grow_alloc (w := w) hm.xlt hn (.cells cl e) hloc
  refine LRes.new hm hn (.cells cl e) (.row w.heap.size cn) hloc _ (.slice (some ⟨w.heap.size, 0, none⟩) ln cn) ?_ ⟨?_, by omega, .inr ⟨_, cn, cl, rfl, heap_alloc_new w _, by simpa using hlc, by omega, hclsz, fun row hr => ?_, fun i t hi => ?_⟩⟩ (.sl (gset_same ..) hlc)
  · have hrun : (Instr.makeSlice t (.int k (ln : Int)) (.int k' (cn : Int))).run P w = .ok (.slice (some ⟨w.heap.size, 0, none⟩) ln cn) (w.alloc (.cells cl e)) := by
      have q1 := hsm cn (Nat.le_refl _)
      have q2 : ¬ (ln : Int) > cn := by omega
      have q3 : ¬ (cn : Int) < 0 := by omega
      have q4 : ¬ (ln : Int) < 0 := by omega
      by_cases hz0 : cn * te.size = 0
      · have hcl0 : cl = #[] := by rw [← hcl, hz0]; simp
        subst hcl0
        simp only [Instr.makeSlice, Sem.run_bind, u1, Result.andThen_ok, asInt, asIntOf, Sem.run_pure, typeInfo, run_program, i1]
        simp [w1, w2, q1, q2, q3, q4, sizeOf, typeInfo, i1, i4, hz0, newRow]
        rw [show (Array.map (fun _ => (default : Value)) (Array.range 0)) = #[] by simp]
      · simp only [Instr.makeSlice, Sem.run_bind, u1, Result.andThen_ok, asInt, asIntOf, Sem.run_pure, typeInfo, run_program, i1]
        simp [w1, w2, q1, q2, q3, q4, sizeOf, typeInfo, i1, i4, hz0, zeroValue, i6, newRow, hcl]
    simp only [execOp, ho, Sem.run_bind, hlv, hcv]
    show ((Instr.makeSlice t (.int k (ln : Int)) (.int k' (cn : Int))).run P w).andThen _ = _
    rw [hrun]
    rfl
  · simp only [List.length_replicate, Int.toNat_natCast]
    have : ln * te.bytes ≤ cn * te.bytes := Nat.mul_le_mul_right _ hlc
    omega
  · rw [List.eq_of_mem_replicate hr]; simpa [ztrs] using i8
  · have hfl : ∀ (n : Nat) (r : List Tr) (i : Nat), (List.replicate n r).flatten[i]? = if i < n * r.length then r[i % r.length]? else none := by
      intro n r
      induction n with
      | zero => intro i; simp
      | succ n ih =>
        intro i
        rw [List.replicate_succ, List.flatten_cons]
        by_cases h1 : i < r.length
        · rw [List.getElem?_append_left h1, if_pos (by rw [Nat.succ_mul]; omega), Nat.mod_eq_of_lt h1]
        · rw [List.getElem?_append_right (by omega), ih]
          by_cases h2 : i < (n + 1) * r.length
          · rw [if_pos (by rw [Nat.succ_mul] at h2; omega), if_pos h2, ← Nat.mod_eq_sub_mod (by omega)]
          · rw [if_neg (by rw [Nat.succ_mul] at h2; omega), if_neg h2]
    have hlen : (ztrs te.zero).length = te.size := by simpa [ztrs] using i8
    rw [hfl, hlen] at hi
    split at hi
    case isFalse => cases hi
    rename_i hilt
    simp only [Int.toNat_natCast] at hilt
    have hic : i < cn * te.size := Nat.lt_of_lt_of_le hilt (Nat.mul_le_mul_right _ hlc)
    simp only [ztrs, List.getElem?_map, Option.map_eq_some_iff] at hi
    obtain ⟨z, z1, rfl⟩ := hi
    refine ⟨z.val, ?_, .v (good_zero z)⟩
    rw [← hcl]
    have hmod : i % te.size < te.zero.length := by rw [i8]; exact Nat.mod_lt _ (by omega)
    simp only [Array.getElem?_map, Array.getElem?_range, if_pos hic, Option.map_some, hzs]
    rw [hz]
    have z2 : te.zero[i % te.size]'hmod = z := by simpa [hmod] using z1
    congr 1
    rw [getElem!_pos _ _ (by simpa using hmod)]
    simp [z2]

/-! maps -/
theorem D_map {u : TypeDesc} {k e : Nat} (h : D.of u = .map k e) : u = .map k e := by
  cases u <;> first | (cases h; done) | (cases h; rfl)
theorem MK.of_val {v : Value} {q : MK} (h : MK.of v = some q) : v = q.val := by
  unfold MK.of at h
  split at h <;> first | (cases h; rfl) | cases h
theorem fits_und {u : TypeDesc} {kd : D} (h : D.of u = kd) {q : MK} (hf : q.fits kd = true) : (∃ a, q = .ks a ∧ u = .string) ∨ (∃ k n, q = .ki k n ∧ u = .int k) ∨ ∃ x, q = .kb x ∧ u = .bool := by
  subst h
  cases q with
  | ks a => cases u <;> first | exact .inl ⟨a, rfl, rfl⟩ | cases hf
  | ki k n => cases u <;> first | (simp only [D.of, MK.fits, decide_eq_true_eq] at hf; subst hf; exact .inr (.inl ⟨_, n, rfl, rfl⟩)) | cases hf
  | kb x => cases u <;> first | exact .inr (.inr ⟨x, rfl, rfl⟩) | cases hf
theorem run_checkKey {kt : Nat} {u : TypeDesc} (hu : P.underlying kt = some u) {q : MK} (hf : q.fits (D.of u) = true) (e : Bool) (w : World) : (Instr.checkKey e 10000 kt q.val).run P w = .ok () w := by
  show (Instr.checkKey e (9999 + 1) kt q.val).run P w = .ok () w
  generalize 9999 = n
  rcases fits_und rfl hf with ⟨a, rfl, rfl⟩ | ⟨k, n, rfl, rfl⟩ | ⟨x, rfl, rfl⟩ <;> simp [Instr.checkKey, run_underlying hu, MK.val]
theorem sameNow_ok {u : TypeDesc} {q k : MK} (hq : q.fits (D.of u) = true) (hk : k.fits (D.of u) = true) : Instr.sameNow u q.val k.val = some (q.same k) := by
  rcases fits_und rfl hq with ⟨a, rfl, rfl⟩ | ⟨k1, n, rfl, rfl⟩ | ⟨x, rfl, rfl⟩
  · rcases fits_und rfl hk with ⟨a', rfl, _⟩ | ⟨k2, n', rfl, h⟩ | ⟨x', rfl, h⟩
    · simp [Instr.sameNow, MK.val, MK.same, beq_toListBytes]
    · cases h
    · cases h
  · rcases fits_und rfl hk with ⟨a', rfl, h⟩ | ⟨k2, n', rfl, h⟩ | ⟨x', rfl, h⟩
    · cases h
    · cases h; simp [Instr.sameNow, MK.val, MK.same]
    · cases h
  · rcases fits_und rfl hk with ⟨a', rfl, h⟩ | ⟨k2, n', rfl, h⟩ | ⟨x', rfl, h⟩
    · cases h
    · cases h
    · simp [Instr.sameNow, MK.val, MK.same]
/-- where a key stands -/
def mfind : List (MK × Tr) → MK → Nat → Option Nat
  | [], _, _ => none
  | (k, _) :: r, q, i => bif MK.same q k then some i else mfind r q (i + 1)
theorem findNow_ok {ok : Nat → Prop} {w : World} {u : TypeDesc} {q : MK} (hq : q.fits (D.of u) = true) : ∀ (es : List (MK × Tr)) (ents : List MapEntry) (i : Nat), ents.length = es.length → (∀ p ∈ es, p.1.fits (D.of u) = true) →
    (∀ (j : Nat) (k : MK) (t : Tr), es[j]? = some (k, t) → ∃ en, ents[j]? = some en ∧ en.key = k.val ∧ RepT ok w en.val t) →
    ∃ r, Instr.findNow u q.val ents i = some r ∧ ((r = none ∧ mget es q = none ∧ mfind es q i = none) ∨ ∃ j v t, r = some (j, v) ∧ mfind es q i = some j ∧ mget es q = some t ∧ RepT ok w v t)
  | [], [], i, _, _, _ => ⟨none, rfl, .inl ⟨rfl, rfl, rfl⟩⟩
  | [], _ :: _, _, h, _, _ => by simp at h
  | _ :: _, [], _, h, _, _ => by simp at h
  | (k, t) :: es, en :: ents, i, hl, hf, he => by
    obtain ⟨en', h1, h2, h3⟩ := he 0 k t rfl
    simp at h1
    subst h1
    unfold Instr.findNow mget mfind
    rw [h2, sameNow_ok hq (hf (k, t) (by simp))]
    cases hs : q.same k with
    | true => exact ⟨_, rfl, .inr ⟨i, en.val, t, rfl, rfl, rfl, h3⟩⟩
    | false =>
      simp only [cond_false]
      exact findNow_ok hq es ents (i + 1) (by simpa using hl) (fun p hp => hf p (by simp [hp])) (fun j k' t' hj => by simpa using he (j + 1) k' t' (by simpa using hj))
theorem l_lookup (hT : TOk P T) {ty : Nat} {x i : Operand} {ok : Bool} {a : AV} {kv : Value} (ho : o.op = .lookup ty x i ok) (hx : ev x = some a) (hi : ev i = some (.tr (.v kv))) (h : alookup T m ty kv ok K a) : LOk P o m nh ev K := by
  unfold alookup at h
  split at h
  case h_2 => exact h.elim
  rename_i hd
  split at h
  case h_2 => exact h.elim
  rename_i k e s1 s2 s3 s4 kd es q e1 em eq
  split at h
  case h_2 => exact h.elim
  rename_i kd' d s6 s7 z s8 e2 e3
  cases hb : (decide (kd = kd') && q.fits kd && !d.agg) with
  | false => rw [hb] at h; exact h.elim
  | true =>
  rw [hb, cond_true] at h
  simp only [Bool.and_eq_true, decide_eq_true_eq, Bool.not_eq_true'] at hb
  obtain ⟨⟨rfl, hf⟩, hda⟩ := hb
  have main : ∀ (g : Gh) (w : World) (m' : Mem) (ρ : Operand → Value), MSt g w m' → (∀ p ∈ [(hd, Blk.map kd es)], m' p.1 = some p.2) → (∀ x b, ev x = some b → Rep g w (ρ x) b) →
      ∃ v, (Instr.lookup ty (ρ x) (ρ i) ok).run P w = .ok (if ok then .tuple #[v, .bool (mget es q).isSome] else v) w ∧ RepT (okB g w) w v ((mget es q).getD (.v z.val)) := by
    intro g w m' ρ hm hrd hev
    obtain ⟨lc, g1, b, ents, clock, rfl, b1, b2, b3, b4⟩ := hm.blk hd _ (hrd (hd, .map kd es) (by simp))
    have hv : ρ x = .map (some b) := by
      have hr := hev _ _ hx
      generalize ρ x = v at hr
      cases hr with
      | mpD e => rw [g1] at e; cases e
      | mp e => rw [g1] at e; cases e; rfl
    have hk : ρ i = q.val := (val_inv (hev _ _ hi)).1.trans (MK.of_val eq)
    obtain ⟨u, u1, u2, u3⟩ := run_und hT e1 w
    obtain rfl := D_map u2
    obtain ⟨uk, k1, k2⟩ := dOf_und hT e2
    subst k2
    have hck := run_checkKey k1 hf ents.isEmpty w
    obtain ⟨r, r1, r2⟩ := findNow_ok (ok := okB g w) (w := w) hf es ents.toList 0 (by simpa using b2) b3 (fun j k t hj => by simpa using b4 j k t hj)
    obtain ⟨zv, z1, z2, _, z4⟩ := run_zero hT e3 w
    have hzv : zv = z.val := by
      have hc : zv.cells = #[z.val] := by simpa using z2
      obtain ⟨ti', u', zt, q1, q2, q3, q4, q5, q6, q7, q8⟩ := hT.info e3
      have hzz : zt = zv := by
        have : (zeroValue e).run P w = .ok zt w := by simp [zeroValue, typeInfo, q1, q6]
        rw [z1] at this; cases this; rfl
      subst hzz
      unfold zcells at q7
      split at q7
      · -- an aggregate of one cell is none of ours
        rename_i hag
        rw [hda] at hag; cases hag
      · split at q7
        · cases q7
        · simp only [Option.map_eq_some_iff] at q7
          obtain ⟨z', h1, h2⟩ := q7
          cases h2
          exact Z.of_val h1
    have hgo : (getObj b).run P w = .ok (.map ents clock) w := by simp [getObj, Sem.run, b1]
    have hfk : (Instr.findKey k q.val ents.toList).run P w = .ok r w := by
      simp [Instr.findKey, run_underlying k1, r1]
    rcases r2 with ⟨rfl, m1, _⟩ | ⟨j, v, t, rfl, _, m1, m2⟩
    · refine ⟨z.val, ?_, by rw [m1]; exact .v (good_zero z)⟩
      rw [m1, hv, hk]
      cases ok <;> simp [Instr.lookup, u1, hgo, hck, hfk, z1, hzv]
    · refine ⟨v, ?_, by rw [m1]; exact m2⟩
      rw [m1, hv, hk]
      cases ok <;> simp [Instr.lookup, u1, hgo, hck, hfk]
  cases hok : ok with
  | true =>
    rw [hok, cond_true] at h
    refine LOk.pure _ _ h (by simpa using em) fun g w m' ρ hm hrd hev => ?_
    obtain ⟨v, v1, v2⟩ := main g w m' ρ hm hrd hev
    rw [hok, if_pos rfl] at v1
    refine ⟨_, by simp only [execOp, ho, hok, Sem.run_bind, v1, Result.andThen_ok]; rfl, .tup rfl fun j c b c1 c2 => ?_⟩
    match j with
    | 0 => simp at c1 c2; subst c1; subst c2; exact .tr v2
    | 1 => simp at c1 c2; subst c1; subst c2; exact .tr (.v trivial)
    | j + 2 => simp at c2
  | false =>
    rw [hok, cond_false] at h
    refine LOk.pure _ _ h (by simpa using em) fun g w m' ρ hm hrd hev => ?_
    obtain ⟨v, v1, v2⟩ := main g w m' ρ hm hrd hev
    rw [hok, if_neg (by simp)] at v1
    exact ⟨_, by simp only [execOp, ho, hok, Sem.run_bind, v1, Result.andThen_ok]; rfl, .tr v2⟩
theorem mput_none : ∀ {es : List (MK × Tr)} {q : MK} {x : Tr} {i : Nat}, mfind es q i = none → mput es q x = es ++ [(q, x)] := by
  intro es
  induction es with
  | nil => intro q x i _; rfl
  | cons p r ih =>
    obtain ⟨k, v⟩ := p
    intro q x i h
    unfold mfind at h
    unfold mput
    cases hs : q.same k with
    | true => rw [hs] at h; cases h
    | false => rw [hs] at h; rw [cond_false, ih h]; rfl
theorem mput_some : ∀ {es : List (MK × Tr)} {q : MK} {x : Tr} {i j : Nat}, mfind es q i = some j → ∃ d k t, j = i + d ∧ es[d]? = some (k, t) ∧ q.same k = true ∧ mput es q x = es.set d (q, x) := by
  intro es
  induction es with
  | nil => intro q x i j h; cases h
  | cons p r ih =>
    obtain ⟨k, v⟩ := p
    intro q x i j h
    unfold mfind at h
    unfold mput
    cases hs : q.same k with
    | true => rw [hs] at h; cases h; exact ⟨0, k, v, rfl, rfl, hs, rfl⟩
    | false =>
      rw [hs] at h
      obtain ⟨d, k', t', h1, h2, h3, h4⟩ := ih h (x := x)
      exact ⟨d + 1, k', t', by omega, h2, h3, by rw [cond_false, h4]; rfl⟩
theorem same_val {q k : MK} {u : TypeDesc} (hq : q.fits (D.of u) = true) (hk : k.fits (D.of u) = true) (h : q.same k = true) : k.val = q.val := by
  rcases fits_und rfl hq with ⟨a, rfl, rfl⟩ | ⟨k1, n, rfl, rfl⟩ | ⟨x, rfl, rfl⟩
  · rcases fits_und rfl hk with ⟨a', rfl, _⟩ | ⟨k2, n', rfl, h'⟩ | ⟨x', rfl, h'⟩
    · have h : (a.toList == a'.toList) = true := h
      have : a.data.toList = a'.data.toList := by
        rw [ByteArray.toList_eq, ByteArray.toList_eq] at h
        exact eq_of_beq h
      obtain ⟨⟨x⟩⟩ := a
      obtain ⟨⟨y⟩⟩ := a'
      simp only at this
      subst this
      rfl
    · cases h'
    · cases h'
  · rcases fits_und rfl hk with ⟨a', rfl, h'⟩ | ⟨k2, n', rfl, h'⟩ | ⟨x', rfl, h'⟩
    · cases h'
    · cases h'; have h : (n == n') = true := h; rw [eq_of_beq h]
    · cases h'
  · rcases fits_und rfl hk with ⟨a', rfl, h'⟩ | ⟨k2, n', rfl, h'⟩ | ⟨x', rfl, h'⟩
    · cases h'
    · cases h'
    · have h : (x == x') = true := h; rw [eq_of_beq h]
theorem sameBits_self (q : MK) (n : Nat) : Instr.sameBits n q.val q.val = true := by
  cases q with
  | ks a =>
    have : (a == a) = true := by rw [beq_toListBytes]; simp
    cases n <;> simp [Instr.sameBits, MK.val, this]
  | ki k z => cases n <;> simp [Instr.sameBits, MK.val]
  | kb x => cases n <;> simp [Instr.sameBits, MK.val]
theorem l_mapUpdate (hT : TOk P T) {ty : Nat} {x i y : Operand} {a b : AV} {kv : Value} (ho : o.op = .mapUpdate ty x i y) (hx : ev x = some a) (hi : ev i = some (.tr (.v kv))) (hy : ev y = some b) (h : amapUpdate T m ty kv b K a) : LOk P o m nh ev K := by
  unfold amapUpdate at h
  split at h
  case h_2 => exact h.elim
  rename_i hd
  split at h
  case h_2 => exact h.elim
  rename_i k e s1 s2 s3 s4 kd es q t e1 em eq
  split at h
  case h_2 => exact h.elim
  rename_i kd' e2
  cases hb : (decide (kd = kd') && q.fits kd) with
  | false => rw [hb] at h; exact h.elim
  | true =>
  rw [hb, cond_true] at h
  simp only [Bool.and_eq_true, decide_eq_true_eq] at hb
  obtain ⟨rfl, hf⟩ := hb
  refine ⟨_, _, _, h, by simpa using em, fun p hp => .inr ⟨(hd, .map kd es), by simp, by simp at hp; rw [hp]⟩, fun g w m' ρ hm hn hrd hev => ?_⟩
  obtain ⟨lc, g1, b, ents, clock, rfl, b1, b2, b3, b4⟩ := hm.blk hd _ (hrd (hd, .map kd es) (by simp))
  have hv : ρ x = .map (some b) := by
    have hr := hev _ _ hx
    generalize ρ x = v at hr
    cases hr with
    | mpD e => rw [g1] at e; cases e
    | mp e => rw [g1] at e; cases e; rfl
  have hk : ρ i = q.val := (val_inv (hev _ _ hi)).1.trans (MK.of_val eq)
  have hval := (hev _ _ hy).tr_inv
  obtain ⟨u, u1, u2, u3⟩ := run_und hT e1 w
  obtain rfl := D_map u2
  obtain ⟨uk, k1, k2⟩ := dOf_und hT e2
  subst k2
  have hck := run_checkKey k1 hf false w
  obtain ⟨r, r1, r2⟩ := findNow_ok (ok := okB g w) (w := w) hf es ents.toList 0 (by simpa using b2) b3 (fun j k t hj => by simpa using b4 j k t hj)
  have hgo : (getObj b).run P w = .ok (.map ents clock) w := by simp [getObj, Sem.run, b1]
  have hfk : (Instr.findKey k q.val ents.toList).run P w = .ok r w := by
    simp [Instr.findKey, run_underlying k1, r1]
  have hset : ∀ ob, (setObj b ob).run P w = .ok () { w with heap := w.heap.setIfInBounds b ob } := fun ob => by simp [setObj, Sem.run, b1]
  have hlt : b < w.heap.size := (Array.getElem?_eq_some_iff.1 b1).1
  -- what the store leaves
  have fin : ∀ (ents' : Array MapEntry) (clock' : Nat), (execOp ρ o).run P w = .ok .skip { w with heap := w.heap.setIfInBounds b (.map ents' clock') } → ents'.size = (mput es q t).length →
      (∀ (j : Nat) (k : MK) (tt : Tr), (mput es q t)[j]? = some (k, tt) → ∃ en, ents'[j]? = some en ∧ en.key = k.val ∧ RepT (okB g w) w en.val tt) → (∀ p ∈ mput es q t, p.1.fits (D.of uk) = true) → LRes P (execOp ρ o) g w m' nh [(hd, some (.map (D.of uk) (mput es q t)))] .und := by
    intro ents' clock' hrun hsz hen hfits
    have hko : ∀ j, j ≠ b → (w.heap.setIfInBounds b (.map ents' clock'))[j]? = w.heap[j]? := fun j hj => by
      rw [Array.getElem?_setIfInBounds_ne (Ne.symm hj)]
    have hg := grow_write (g := g) (h := hd) (b := b) (l := .blk b) (w := w) (w' := { w with heap := w.heap.setIfInBounds b (.map ents' clock') }) (hm.xl hd _ b g1 rfl) g1 rfl rfl rfl rfl (by simp) hko
    refine ⟨g, _, .inr ⟨hrun, rfl⟩, mst_write hm g1 rfl hg (by simp) hko ⟨b, ents', clock', rfl, ?_, hsz, hfits, fun j k tt hj => ?_⟩, hg, fun _ _ h => h⟩
    · show (w.heap.setIfInBounds b _)[b]? = _
      simp [hlt]
    · obtain ⟨en, c1, c2, c3⟩ := hen j k tt hj
      exact ⟨en, c1, c2, c3.grow hg⟩
  rcases r2 with ⟨rfl, _, m1⟩ | ⟨j, v, t', rfl, m1, _, _⟩
  · have hmp := mput_none (x := t) m1
    refine fin (ents.push { key := q.val, val := ρ y, born := clock }) (clock + 1) ?_ (by rw [hmp]; simp [b2]) (fun j kk tt hj => ?_) fun p hp => ?_
    · simp [execOp, ho, hv, hk, Instr.mapUpdate, u1, hgo, hck, hfk, hset]
    · rw [hmp] at hj
      by_cases hjl : j < es.length
      · rw [List.getElem?_append_left hjl] at hj
        obtain ⟨en, c1, c2, c3⟩ := b4 j kk tt hj
        exact ⟨en, by rw [Array.getElem?_push, if_neg (by omega)]; exact c1, c2, c3⟩
      · rw [List.getElem?_append_right (by omega)] at hj
        have hj0 : j - es.length = 0 := by
          have := (List.getElem?_eq_some_iff.1 hj).1
          simp at this; omega
        rw [hj0] at hj
        simp at hj
        obtain ⟨rfl, rfl⟩ := hj
        exact ⟨_, by rw [Array.getElem?_push, if_pos (by omega)], rfl, hval⟩
    · rw [hmp] at hp
      simp only [List.mem_append, List.mem_singleton] at hp
      rcases hp with hp | rfl
      · exact b3 p hp
      · exact hf
  · obtain ⟨d, k0, t0, d1, d2, d3, hmp⟩ := mput_some (x := t) m1
    have d1 : j = d := by omega
    subst d1
    obtain ⟨en0, c1, c2, c3⟩ := b4 j k0 t0 d2
    have hkk : k0.val = q.val := same_val hf (b3 (k0, t0) (List.mem_of_getElem? d2)) d3
    have hkey : ((ents[j]?).map (·.key)).getD q.val = q.val := by rw [c1]; simp [c2, hkk]
    refine fin (ents.modify j fun e => { e with key := q.val, val := ρ y }) clock ?_ (by rw [hmp]; simp [b2]) (fun i' kk tt hj => ?_) fun p hp => ?_
    · have hst : (Instr.keyThatStays q.val q.val).run P w = .ok q.val w := by
        unfold Instr.keyThatStays
        rw [if_pos (sameBits_self q _)]
        rfl
      simp only [execOp, ho, hv, hk, Instr.mapUpdate, Sem.run_bind, u1, Result.andThen_ok, hgo, hck, hfk, hkey, hst, hset, Sem.run_pure]
    · rw [hmp, List.getElem?_set] at hj
      rw [Array.getElem?_modify]
      split at hj
      · rename_i hji
        subst hji
        split at hj
        · simp at hj
          obtain ⟨rfl, rfl⟩ := hj
          rw [if_pos rfl, c1]
          exact ⟨_, rfl, rfl, hval⟩
        · cases hj
      · rename_i hji
        rw [if_neg hji]
        exact b4 i' kk tt hj
    · rw [hmp] at hp
      rcases List.mem_or_eq_of_mem_set hp with hp | rfl
      · exact b3 p hp
      · exact hf
/-! structs against each other -/
theorem seqS_ok (hT : TOk P T) {g : Gh} {w : World} {xs ys : Array Value} (d : Nat) : ∀ (F : List Field) (i : Nat) (l l' : List AV) (b : Bool), seqS T (F.map fun f => (f.type, f.offset)) i l l' = some b → (∀ f ∈ F, f.name ≠ "_") →
    (∀ (j : Nat) (a : AV), l[j]? = some a → ∃ c, xs[i + j]? = some c ∧ Rep g w c a) → (∀ (j : Nat) (a : AV), l'[j]? = some a → ∃ c, ys[i + j]? = some c ∧ Rep g w c a) → (Op.eqFields (d + 1) xs ys F).run P w = .ok b w := by
  intro F
  induction F with
  | nil =>
    intro i l l' b h _ _ _
    cases l with
    | nil => cases l' with
      | nil => cases h; rfl
      | cons => cases h
    | cons => cases l' <;> cases h
  | cons f F ih =>
    intro i l l' b h hn hl hl'
    cases l with
    | nil => cases h
    | cons a l =>
    cases l' with
    | nil => cases a <;> first | cases h | (rename_i t; cases t <;> cases h)
    | cons a' l' =>
    cases a with
    | tr t =>
      cases t with
      | v x =>
        cases a' with
        | tr t' =>
          cases t' with
          | v y =>
            simp only [List.map_cons] at h
            unfold seqS at h
            cases hb : Nat.beq f.offset i with
            | false => rw [hb] at h; cases h
            | true =>
            rw [hb, cond_true] at h
            have hoff := Nat.eq_of_beq_eq_true hb
            obtain ⟨cx, c1, c2⟩ := hl 0 _ rfl
            obtain ⟨cy, d1, d2⟩ := hl' 0 _ rfl
            rw [(val_inv c2).1] at c1
            rw [(val_inv d2).1] at d1
            have ih' : ∀ r, seqS T (F.map fun f => (f.type, f.offset)) (i + 1) l l' = some r → (Op.eqFields (d + 1) xs ys F).run P w = .ok r w := fun r hr =>
              ih (i + 1) l l' r hr (fun f hf => hn f (by simp [hf])) (fun j a hj => by rw [show i + 1 + j = i + (j + 1) by omega]; exact hl (j + 1) a (by simpa using hj)) (fun j a hj => by rw [show i + 1 + j = i + (j + 1) by omega]; exact hl' (j + 1) a (by simpa using hj))
            have step : ∀ (u : TypeDesc) (e : Bool), P.underlying f.type = some u → (∀ fs, u ≠ .struct fs) → (∀ n e, u ≠ .array n e) → (Op.equalIn (d + 1) f.type x y).run P w = .ok e w → ∀ r, seqS T (F.map fun f => (f.type, f.offset)) (i + 1) l l' = some r → (Op.eqFields (d + 1) xs ys (f :: F)).run P w = .ok (e && r) w := by
              intro u e hu hns hna he r hr
              have hpart : ∀ (zs : Array Value) (z : Value), zs[i]? = some z → (part f.type zs f.offset).run P w = .ok z w := fun zs z hz => by
                have hag : (isAgg f.type).run P w = .ok false w := by
                  unfold isAgg
                  rw [Sem.run_bind, run_underlying hu w]
                  cases u <;> first | rfl | exact absurd rfl (hns _) | exact absurd rfl (hna _ _)
                unfold part
                simp only [Sem.run_bind, hag, Result.andThen_ok, Bool.false_eq_true, if_false, hoff, hz, Sem.run_pure]
              unfold Op.eqFields
              rw [if_pos (hn f (by simp))]
              simp only [Sem.run_bind, hpart xs x (by simpa using c1), hpart ys y (by simpa using d1), Result.andThen_ok, he]
              cases e with
              | true => simp [ih' r hr]
              | false => simp
            split at h
            · rename_i q k n k' n' hd
              by_cases hk : k = k'
              · subst hk
                rw [if_pos rfl] at h
                split at h
                · rename_i r hr
                  cases h
                  obtain ⟨u, u1, u2⟩ := dOf_und hT hd
                  obtain rfl := D_int u2
                  exact step _ _ u1 (fun _ => by simp) (fun _ _ => by simp) (run_equalIn_int w d _ _ _ _ _ u1) r hr
                · cases h
              · rw [if_neg hk] at h; cases h
            · rename_i a1 a2 hd
              split at h
              · rename_i r hr
                cases h
                obtain ⟨u, u1, u2⟩ := dOf_und hT hd
                obtain rfl := D_string u2
                exact step _ _ u1 (fun _ => by simp) (fun _ _ => by simp) (run_equalIn_string w d _ _ _ u1) r hr
              · cases h
            · rename_i a1 a2 hd
              split at h
              · rename_i r hr
                cases h
                obtain ⟨u, u1, u2⟩ := dOf_und hT hd
                obtain rfl := D_bool u2
                exact step _ _ u1 (fun _ => by simp) (fun _ _ => by simp) (run_equalIn_bool' w d _ _ _ u1) r hr
              · cases h
            · cases h
          | lst => cases h
        | _ => cases h
      | lst => cases a' <;> cases h
    | _ => cases h
theorem aeqS_ok (hT : TOk P T) {t : Nat} {l l' : List AV} {b : Bool} (h : aeqS T t l l' = some b) {g : Gh} {w : World} {xs ys : Array Value} (hx : Cells g w xs l) (hy : Cells g w ys l') (xo yo : Operand) :
    (do eqGuard .eql t xo yo (.agg xs) (.agg ys); binOp .eql t (.agg xs) (.agg ys) : Sem Value).run P w = .ok (.bool b) w ∧ (do eqGuard .neq t xo yo (.agg xs) (.agg ys); binOp .neq t (.agg xs) (.agg ys) : Sem Value).run P w = .ok (.bool !b) w := by
  unfold aeqS at h
  split at h
  case h_2 => cases h
  rename_i fs s1 s2 s3 e1
  obtain ⟨ti, u, z, q1, q2, q3, _⟩ := hT.info e1
  have hq : eqOf P t u = true := by
    have := hT t _ e1
    unfold tyOf at this
    rw [q1, q2] at this
    simp only at this
    split at this
    case h_2 => cases this
    split at this
    case h_2 => cases this
    split at this
    · simp only [Option.some.injEq, TyI.mk.injEq] at this
      exact this.2.2.2.2
    · cases this
  obtain ⟨fds, rfl, rfl⟩ := D_struct q3
  unfold eqOf at hq
  simp only [Bool.and_eq_true, Bool.not_eq_true'] at hq
  obtain ⟨⟨hs, hgd⟩, hnm⟩ := hq
  have hfd : P.fieldsOf t = fds := by simp [Program.fieldsOf, q2]
  have hag := fun op => run_eqGuard_agg (P := P) w op t xo yo xs ys hgd
  have heq := run_equalIn_struct (P := P) w 9999 t xs ys (by rw [hfd]; exact q2) hs
  have hgo := seqS_ok hT (g := g) (w := w) (xs := xs) (ys := ys) 9998 fds.toList 0 l l' b h (fun f hf => by
    have := Array.all_eq_true'.1 hnm f (by simpa using hf)
    simpa using this) (fun j a hj => by rw [Nat.zero_add]; exact get_cells hx hj) (fun j a hj => by rw [Nat.zero_add]; exact get_cells hy hj)
  rw [hfd, hgo] at heq
  constructor
  · simp only [Sem.run_bind, hag, Result.andThen_ok, run_eql_struct, heq]
  · simp only [Sem.run_bind, hag, Result.andThen_ok, run_neq_struct, heq]
theorem l_eqS (hT : TOk P T) {op : BinOp} {ty ty2 : Nat} {x y : Operand} {l l' : List AV} {b r : Bool} (ho : o.op = .binOp op ty x y ty2) (hx : ev x = some (.agg l)) (hy : ev y = some (.agg l')) (h : aeqS T ty l l' = some b) (hop : (op = .eql ∧ r = b) ∨ (op = .neq ∧ r = !b))
    (hK : K (.tr (.v (.bool r))) [] []) : LOk P o m nh ev K := by
  refine LOk.pure _ _ hK (by simp) fun g w m' ρ hm hrd hev => ?_
  have hcells : ∀ (v : Value) (l : List AV), Rep g w v (.agg l) → ∃ cs, v = .agg cs ∧ Cells g w cs l := fun v l hr => by
    cases hr with
    | agg h1 h2 h3 => exact ⟨_, rfl, h1, h2, h3⟩
  obtain ⟨xs, e1, c1⟩ := hcells _ _ (hev _ _ hx)
  obtain ⟨ys, e2, c2⟩ := hcells _ _ (hev _ _ hy)
  obtain ⟨r1, r2⟩ := aeqS_ok hT h c1 c2 x y
  refine ⟨.bool r, ?_, .tr (.v trivial)⟩
  simp only [Sem.run_bind] at r1 r2
  rcases hop with ⟨rfl, rfl⟩ | ⟨rfl, rfl⟩
  · simp only [execOp, ho, e1, e2, Sem.run_bind, r1, Result.andThen_ok, Sem.run_pure]
  · simp only [execOp, ho, e1, e2, Sem.run_bind, r2, Result.andThen_ok, Sem.run_pure]
theorem D_iface {u : TypeDesc} (h : D.of u = .iface) : ∃ ms, u = .interface ms := by
  cases u <;> first | (cases h; done) | exact ⟨_, rfl⟩
theorem l_eqNil (hT : TOk P T) {op : BinOp} {ty ty2 : Nat} {x y : Operand} {t : Nat} {a : AV} {r : Bool} (ho : o.op = .binOp op ty x y ty2) (hx : ev x = some (.ifc t a)) (hy : ev y = some (.tr (.v .nilIface))) (hd : dOf T ty = some .iface) (hop : (op = .eql ∧ r = false) ∨ (op = .neq ∧ r = true))
    (hK : K (.tr (.v (.bool r))) [] []) : LOk P o m nh ev K := by
  refine LOk.pure _ _ hK (by simp) fun g w m' ρ hm hrd hev => ?_
  obtain ⟨u, u1, u2⟩ := dOf_und hT hd
  obtain ⟨ms, rfl⟩ := D_iface u2
  have e2 := (val_inv (hev _ _ hy)).1
  have hr := hev _ _ hx
  generalize hv : ρ x = v at hr
  cases hr with
  | ifc hr =>
    rename_i xv
    have heq : (Op.equal ty (.iface t xv) .nilIface).run P w = .ok false w := by
      show (Op.equalIn (9999 + 1) ty (.iface t xv) .nilIface).run P w = .ok false w
      generalize 9999 = n
      simp [Op.equalIn, run_underlying u1]
    refine ⟨.bool r, ?_, .tr (.v trivial)⟩
    rcases hop with ⟨rfl, rfl⟩ | ⟨rfl, rfl⟩
    · simp [execOp, ho, hv, e2, eqGuard, binOp, heq]
    · simp [execOp, ho, hv, e2, eqGuard, binOp, heq]
theorem D_ptr {u : TypeDesc} {e : Nat} (h : D.of u = .ptr e) : u = .pointer e := by
  cases u <;> first | (cases h; done) | (cases h; rfl)
theorem l_nilB (hT : TOk P T) {op : BinOp} {ty ty2 : Nat} {x y : Operand} {a b : Value} {r : Bool} (ho : o.op = .binOp op ty x y ty2) (hx : ev x = some (.tr (.v a))) (hy : ev y = some (.tr (.v b))) (hd : nilB (dOf T ty) y a b = true) (hop : (op = .eql ∧ r = true) ∨ (op = .neq ∧ r = false))
    (hK : K (.tr (.v (.bool r))) [] []) : LOk P o m nh ev K := by
  refine LOk.pure _ _ hK (by simp) fun g w m' ρ hm hrd hev => ?_
  have e1 := (val_inv (hev _ _ hx)).1
  have e2 := (val_inv (hev _ _ hy)).1
  unfold nilB at hd
  split at hd
  · split at hd
    case h_2 => cases hd
    rename_i v hd'
    obtain ⟨u, u1, u2⟩ := dOf_und hT hd'
    obtain ⟨ms, rfl⟩ := D_iface u2
    have heq : (Op.equal ty .nilIface .nilIface).run P w = .ok true w := by
      show (Op.equalIn (9999 + 1) ty .nilIface .nilIface).run P w = .ok true w
      generalize 9999 = n
      simp [Op.equalIn, run_underlying u1]
    refine ⟨.bool r, ?_, .tr (.v trivial)⟩
    rcases hop with ⟨rfl, rfl⟩ | ⟨rfl, rfl⟩
    · simp [execOp, ho, e1, e2, eqGuard, binOp, heq]
    · simp [execOp, ho, e1, e2, eqGuard, binOp, heq]
  · split at hd
    case h_2 => cases hd
    rename_i e hd'
    obtain ⟨u, u1, u2⟩ := dOf_und hT hd'
    obtain rfl := D_ptr u2
    have heq : (Op.equal ty (.pointer none) (.pointer none)).run P w = .ok true w := by
      show (Op.equalIn (9999 + 1) ty (.pointer none) (.pointer none)).run P w = .ok true w
      generalize 9999 = n
      simp [Op.equalIn, run_underlying u1]
    refine ⟨.bool r, ?_, .tr (.v trivial)⟩
    rcases hop with ⟨rfl, rfl⟩ | ⟨rfl, rfl⟩
    · simp [execOp, ho, e1, e2, eqGuard, binOp, heq]
    · simp [execOp, ho, e1, e2, eqGuard, binOp, heq]
  · cases hd
theorem l_ptrNil (hT : TOk P T) {op : BinOp} {ty ty2 e : Nat} {x y : Operand} {hd off : Nat} {b : Blk} {r : Bool} (ho : o.op = .binOp op ty x y ty2) (hx : ev x = some (.ptr hd off)) (hy : ev y = some (.tr (.v (.pointer none)))) (hde : dOf T ty = some (.ptr e)) (hm0 : m hd = some b) (hop : (op = .eql ∧ r = false) ∨ (op = .neq ∧ r = true))
    (hK : K (.tr (.v (.bool r))) [(hd, b)] []) : LOk P o m nh ev K := by
  refine LOk.pure _ _ hK (fun p hp => by simp at hp; subst hp; exact hm0) fun g w m' ρ hm hrd hev => ?_
  have e2 := (val_inv (hev _ _ hy)).1
  obtain ⟨u, u1, u2⟩ := dOf_und hT hde
  obtain rfl := D_ptr u2
  obtain ⟨l, g1, g2⟩ := hm.blk hd _ (hrd (hd, b) (by simp))
  have hr := hev _ _ hx
  generalize hv : ρ x = v at hr
  cases hr with
  | ptrD e => rw [g1] at e; cases e
  | ptr eq =>
    rename_i k
    have heq : (Op.equal ty (.pointer (some ⟨k, off, none⟩)) (.pointer none)).run P w = .ok false w := by
      show (Op.equalIn (9999 + 1) ty _ _).run P w = .ok false w
      generalize 9999 = n
      simp [Op.equalIn, run_underlying u1]
    refine ⟨.bool r, ?_, .tr (.v trivial)⟩
    rcases hop with ⟨rfl, rfl⟩ | ⟨rfl, rfl⟩
    · simp [execOp, ho, hv, e2, eqGuard, binOp, heq]
    · simp [execOp, ho, hv, e2, eqGuard, binOp, heq]
theorem l_typeAssert (hT : TOk P T) {x : Operand} {xt t : Nat} {a : AV} {d : D} (ho : o.op = .typeAssert x xt t false) (hx : ev x = some (.ifc t a)) (hd : dOf T t = some d) (hni : d ≠ .iface) (hK : K a [] []) : LOk P o m nh ev K := by
  refine LOk.pure _ _ hK (by simp) fun g w m' ρ hm hrd hev => ?_
  obtain ⟨u, u1, u2⟩ := dOf_und hT hd
  have hr := hev _ _ hx
  generalize hv : ρ x = v at hr
  cases hr with
  | ifc hr =>
    rename_i xv
    refine ⟨xv, ?_, hr⟩
    have : (Instr.typeAssert (.iface t xv) xt t false).run P w = .ok xv w := by
      unfold Instr.typeAssert
      simp only [Sem.run_bind, run_underlying u1, Result.andThen_ok]
      cases u <;> first | (exact absurd u2.symm hni) | simp
    simp only [execOp, ho, hv, Sem.run_bind, this, Result.andThen_ok]
    rfl
end
end Go.Proofs.Ytbpcbhmdjphodaa.am

namespace Go.Proofs.Ytbpcbhmdjphodaa.am
open Go
set_option linter.unusedSimpArgs false
section
variable {P : Program} {T : Ty} {o : Oper} {m : Mem} {nh : Nat} {ev : Operand → Option AV} {K : KK}
theorem optZ_inv {g : Gh} {w : World} {ρ : Operand → Value} (hev : ∀ x b, ev x = some b → Rep g w (ρ x) b) {lo : Option Operand} {l : Option Int} (h : optZ (lo.map ev) = some l) : (lo = none ∧ l = none) ∨ ∃ x k z, lo = some x ∧ l = some z ∧ ρ x = .int k z := by
  cases lo with
  | none => left; simpa [optZ, eq_comm] using h
  | some x =>
    right
    simp only [Option.map_some] at h
    unfold optZ at h
    split at h
    · rename_i e; cases e
    · rename_i k z e
      cases h
      have e : ev x = some (.tr (.v (.int k z))) := by simpa using e
      exact ⟨x, k, z, rfl, rfl, (int_inv (hev x _ e)).1⟩
    · cases h
theorem run_bounds {P : Program} {w : World} {ρ : Operand → Value} {isS : Bool} {len cap : Nat} {lo hi : Option Operand} {l h : Option Int} (hl : (lo = none ∧ l = none) ∨ ∃ x k z, lo = some x ∧ l = some z ∧ ρ x = .int k z) (hh : (hi = none ∧ h = none) ∨ ∃ x k z, hi = some x ∧ h = some z ∧ ρ x = .int k z)
    (h0 : 0 ≤ l.getD 0) (h1 : l.getD 0 ≤ h.getD len) (h2 : h.getD len ≤ len) (hc : len ≤ cap) :
    (Instr.sliceBounds isS len cap (lo.map ρ) (hi.map ρ) none).run P w = .ok ((l.getD 0).toNat, (h.getD len).toNat, cap) w := by
  have hb : ∀ (k : IntKind) (z : Int) (y : Nat) (code : BoundsCode), 0 ≤ z → z ≤ y → (Instr.sliceBound (.int k z) y code).run P w = .ok z.toNat w := fun k z y code a b => by
    simp [Instr.sliceBound, asIntOf, a, b]
  rcases hh with ⟨rfl, rfl⟩ | ⟨x, k, z, rfl, rfl, e⟩
  · rcases hl with ⟨rfl, rfl⟩ | ⟨x, k, z, rfl, rfl, e⟩
    · simp [Instr.sliceBounds]
    · simp only [Option.getD_some, Option.getD_none] at h0 h1
      simp [Instr.sliceBounds, e, hb k z len _ h0 h1]
  · simp only [Option.getD_some] at h1 h2
    have hz : 0 ≤ z := by omega
    have q := fun code => hb k z cap code hz (by omega)
    rcases hl with ⟨rfl, rfl⟩ | ⟨x', k', z', rfl, rfl, e'⟩
    · simp [Instr.sliceBounds, e, q]
    · simp only [Option.getD_some] at h0 h1
      simp [Instr.sliceBounds, e, q, e', hb k' z' z.toNat _ h0 (by omega)]
theorem l_slice (hT : TOk P T) {t : Nat} {x : Operand} {lo hi : Option Operand} {a : AV} {l h : Option Int} (ho : o.op = .slice t x lo hi none) (hx : ev x = some a) (hl : optZ (lo.map ev) = some l) (hh : optZ (hi.map ev) = some h) (hK : aslice T m t l h K a) : LOk P o m nh ev K := by
  unfold aslice at hK
  split at hK
  · rename_i s
    split at hK
    case h_2 => exact hK.elim
    rename_i s1 s2 s3 s4 e1
    obtain ⟨h0, h1, h2, hK⟩ := hK
    refine LOk.pure _ _ hK (by simp) fun g w m' ρ hm hrd hev => ?_
    obtain ⟨e2, g2⟩ := val_inv (hev _ _ hx)
    obtain ⟨u, u1, u2, u3⟩ := run_und hT e1 w
    obtain rfl := D_string u2
    have hb := run_bounds (P := P) (w := w) (isS := false) (len := s.size) (cap := s.size) (optZ_inv hev hl) (optZ_inv hev hh) h0 h1 h2 (Nat.le_refl _)
    refine ⟨_, ?_, .tr (.v (show (s.extract _ _).size ≤ 9223372036854775807 from ?_))⟩
    · have hagg : (Instr.sliceAt t (ρ x) (lo.map ρ) (hi.map ρ) none).run P w = .ok (.string (s.extract (l.getD 0).toNat (h.getD s.size).toNat)) w := by
        simp only [Instr.sliceAt, Sem.run_bind, u1, Result.andThen_ok, Instr.slice, e2]
        simp only [Option.isSome_none, Bool.false_eq_true, if_false, Sem.run_bind, Sem.run_pure, Result.andThen_ok, hb]
      simp only [execOp, ho, Sem.run_bind, Option.map_none, hagg, Result.andThen_ok]
      rfl
    · have : (s.extract (l.getD 0).toNat (h.getD s.size).toNat).size ≤ s.size := by simp [ByteArray.size_extract]; omega
      exact Nat.le_trans this g2
  · rename_i n B rows
    split at hK
    case h_2 => exact hK.elim
    rename_i e s1 s2 s3 s4 e1
    split at hK
    case h_2 => exact hK.elim
    rename_i te e2
    obtain ⟨hn, h0, h1, h2, hK⟩ := hK
    refine LOk.pure _ _ hK (by simp) fun g w m' ρ hm hrd hev => ?_
    obtain ⟨u, u1, u2, u3⟩ := run_und hT e1 w
    obtain rfl := D_slice u2
    obtain ⟨ao, cap, f, hv, q1, q2, q3, q4, q5, q6⟩ := lst_inv (hev _ _ hx).tr_inv
    have hb := run_bounds (P := P) (w := w) (isS := true) (len := rows.length) (cap := cap) (optZ_inv hev hl) (optZ_inv hev hh) h0 h1 h2 q1
    generalize hL : l.getD 0 = lo' at *
    generalize hH : h.getD (rows.length : Int) = hi' at *
    have hlen : ((rows.take hi'.toNat).drop lo'.toNat).length = hi'.toNat - lo'.toNat := by simp; omega
    have hget : ∀ (i : Nat) (row : List Tr), ((rows.take hi'.toNat).drop lo'.toNat)[i]? = some row → rows[lo'.toNat + i]? = some row := fun i row hr => by
      rw [List.getElem?_drop, List.getElem?_take] at hr
      split at hr
      · exact hr
      · cases hr
    have hrun : (Instr.sliceAt t (ρ x) (lo.map ρ) (hi.map ρ) none).run P w = .ok (.slice (if cap = lo'.toNat then ao else ao.map (·.add (lo'.toNat * n))) (hi'.toNat - lo'.toNat) (cap - lo'.toNat)) w := by
      simp only [Instr.sliceAt, Sem.run_bind, u1, Result.andThen_ok, Instr.slice, hv, hb, run_size hT e2, hn]
      simp
    refine ⟨.slice (if cap = lo'.toNat then ao else ao.map (·.add (lo'.toNat * n))) (hi'.toNat - lo'.toNat) (cap - lo'.toNat), ?_, .tr (.lst (fun i j => f (lo'.toNat + i) j) hlen.symm (by omega) (by omega) ?_ (fun e => ?_) (fun i row hr => ?_) (fun i row j tt hr hj => q6 _ row j tt (hget i row hr) hj))⟩
    · simp only [execOp, ho, Sem.run_bind, Option.map_none, hrun, Result.andThen_ok]
      rfl
    · have : (hi'.toNat - lo'.toNat) * B ≤ rows.length * B := Nat.mul_le_mul_right _ (by omega)
      omega
    · have hao : ao = none := by
        split at e
        · exact e
        · simpa using e
      have := q4 hao; omega
    · obtain ⟨r1, b, of, r2, r3, r4⟩ := q5 _ row (hget i row hr)
      have hi1 : lo'.toNat + i < rows.length := (List.getElem?_eq_some_iff.1 (hget i row hr)).1
      refine ⟨r1, b, of + lo'.toNat * n, ?_, r3, fun j hj => ?_⟩
      · rw [if_neg (show ¬ cap = lo'.toNat by omega), r2]; simp [add_mk]
      · rw [← r4 j hj]; congr 2; rw [Nat.add_mul]; omega
  · rename_i hd len
    split at hK
    case h_2 => exact hK.elim
    rename_i e s1 s2 s3 s4 b e1 em
    cases he : (lk T e).isSome with
    | false => rw [he] at hK; exact hK.elim
    | true =>
    rw [he, cond_true] at hK
    obtain ⟨te, e2⟩ := Option.isSome_iff_exists.1 he
    obtain ⟨h0, h2, hK⟩ := hK
    refine LOk.pure _ _ hK (by simpa using em) fun g w m' ρ hm hrd hev => ?_
    obtain ⟨lc, g1, g2⟩ := hm.blk hd b (hrd (hd, b) (by simp))
    obtain ⟨u, u1, u2, u3⟩ := run_und hT e1 w
    obtain rfl := D_slice u2
    have hlo := optZ_inv hev hl
    have hlo0 : lo = none := by
      rcases hlo with ⟨h, _⟩ | ⟨_, _, _, _, h, _⟩
      · exact h
      · cases h
    subst hlo0
    have hcap : ∀ cap, len ≤ cap → (Instr.sliceBounds true len cap ((none : Option Operand).map ρ) (hi.map ρ) none).run P w = .ok (0, (h.getD len).toNat, cap) w := fun cap hc =>
      run_bounds (P := P) (w := w) (isS := true) (len := len) (cap := cap) (l := none) (.inl ⟨rfl, rfl⟩) (optZ_inv hev hh) (Int.le_refl _) h0 h2 hc
    have hrun : ∀ (ao : Option Addr) (cap : Nat), ρ x = .slice ao len cap → len ≤ cap → (∀ b, ao = some b → b.spot = none) → (execOp ρ o).run P w = .ok (.value (.slice ao (h.getD len).toNat cap)) w := fun ao cap hv hc hsp => by
      have : (Instr.sliceAt t (ρ x) ((none : Option Operand).map ρ) (hi.map ρ) none).run P w = .ok (.slice ao (h.getD len).toNat cap) w := by
        simp only [Instr.sliceAt, Sem.run_bind, u1, Result.andThen_ok, Instr.slice, hv, hcap cap hc, run_size hT e2]
        cases ao <;> simp [Addr.add]
      simp only [execOp, ho, Sem.run_bind, Option.map_none] at this ⊢
      simp only [this, Result.andThen_ok]
      rfl
    rcases (hev _ _ hx).sl_inv g1 with ⟨b', cap, rfl, hle, hv⟩ | ⟨rfl, rfl, hv⟩
    · exact ⟨_, hrun _ _ hv hle (fun b e => by cases e; rfl), .sl g1 (by omega)⟩
    · have h00 : (h.getD ((0 : Nat) : Int)).toNat = 0 := by omega
      refine ⟨_, hrun _ _ hv (Nat.le_refl _) (by simp), ?_⟩
      rw [h00]; exact .slN g1
  · exact hK.elim
theorem dite_isNone {α : Type} {x : Option α} {p q : Prop} : (match x with | some _ => p | none => q) → (∃ a, x = some a ∧ p) ∨ (x = none ∧ q) := by
  cases x <;> simp
theorem aop_sound (hT : TOk P T) (h : aop T m nh ev K o.op) : LOk P o m nh ev K := by
  generalize hop : o.op = op at h
  unfold aop at h
  split at h
  · split at h
    · rename_i e; exact l_move (.inl hop) e h
    · exact h.elim
  · split at h
    · rename_i e; exact l_move (.inr hop) e h
    · exact h.elim
  · split at h
    · rename_i b e; exact l_pick hop e h
    · exact h.elim
  · split at h
    · rename_i e; exact l_alloc hT hop e h
    · exact h.elim
  · -- box
    split at h
    case h_2 => exact h.elim
    rename_i a e
    split at h
    case h_2 => exact h.elim
    rename_i cs e2
    cases hc : cs.all AV.one with
    | false => rw [hc] at h; exact h.elim
    | true => rw [hc] at h; exact l_box hop e e2 hc h
  · -- build
    split at h
    · rename_i fs s1 s2 z s4 e
      cases hc : fs.all (fun p => (lk T p.1).isSome) with
      | false => rw [hc] at h; exact h.elim
      | true =>
        rw [hc, cond_true] at h
        split at h
        · rename_i l e2; exact l_buildS hT hop e hc e2 h
        · exact h.elim
    · rename_i n e s1 s2 z s4 e1
      split at h
      case h_2 => exact h.elim
      rename_i te e2
      split at h
      · rename_i l e3; exact l_buildA hT hop e1 e2 e3 h
      · exact h.elim
    · exact h.elim
  · -- buildSlice
    rename_i t len ps
    split at h
    case h_2 => exact h.elim
    rename_i e s1 s2 z s4 e1
    split at h
    case h_2 => exact h.elim
    rename_i te e2
    split at h
    case h_2 => exact h.elim
    rename_i rows e3
    cases hc : (Nat.beq rows.length len && Nat.ble 1 len && Nat.ble 1 te.size && Nat.ble (len * te.size) 16777216 && Nat.ble (len * te.bytes) 140737488351232) with
    | false => rw [hc] at h; exact h.elim
    | true =>
      rw [hc, cond_true] at h
      simp only [Bool.and_eq_true] at hc
      exact l_buildSlice hT hop e1 e2 e3 (Nat.eq_of_beq_eq_true hc.1.1.1.1) (Nat.le_of_ble_eq_true hc.1.1.2) (Nat.le_of_ble_eq_true hc.1.2) (Nat.le_of_ble_eq_true hc.2) (Nat.le_of_ble_eq_true hc.1.1.1.2) h
  · split at h
    · rename_i e; exact l_load hT hop e h
    · exact h.elim
  · split at h
    · rename_i e1 e2; exact l_store hT hop e1 e2 h
    · exact h.elim
  · split at h
    · rename_i e; exact l_fieldAddr hT hop e h
    · exact h.elim
  · split at h
    · rename_i e; exact l_field hT hop e h
    · exact h.elim
  · split at h
    · rename_i a b e1 e2
      split at h
      · rename_i z e3
        obtain ⟨k, rfl⟩ := isInt_inv e3
        exact l_indexAddr hT hop e1 e2 h
      · exact h.elim
    · exact h.elim
  · split at h
    · rename_i a b e1 e2
      split at h
      · rename_i z e3
        obtain ⟨k, rfl⟩ := isInt_inv e3
        exact l_index hT hop e1 e2 h
      · exact h.elim
    · exact h.elim
  · split at h
    · rename_i a b e1 e2
      split at h
      · rename_i e3
        split at h
        · exact l_nilB hT hop e1 e2 e3 (.inl ⟨rfl, rfl⟩) h
        · exact l_nilB hT hop e1 e2 e3 (.inr ⟨rfl, rfl⟩) h
        · exact h.elim
      · split at h
        · rename_i c v e3; exact l_binOp hT hop e1 e2 e3 h
        · exact h.elim
    · rename_i e1 e2
      split at h
      · rename_i e3 e4; exact l_ptrNil hT hop e1 e2 e3 e4 (.inl ⟨rfl, rfl⟩) h
      · rename_i e3 e4; exact l_ptrNil hT hop e1 e2 e3 e4 (.inr ⟨rfl, rfl⟩) h
      · exact h.elim
    · rename_i l l' e1 e2
      split at h
      · rename_i b e3; exact l_eqS hT hop e1 e2 e3 (.inl ⟨rfl, rfl⟩) h
      · rename_i b e3; exact l_eqS hT hop e1 e2 e3 (.inr ⟨rfl, rfl⟩) h
      · exact h.elim
    · rename_i e1 e2
      split at h
      · rename_i e3; exact l_eqNil hT hop e1 e2 e3 (.inl ⟨rfl, rfl⟩) h
      · rename_i e3; exact l_eqNil hT hop e1 e2 e3 (.inr ⟨rfl, rfl⟩) h
      · exact h.elim
    · exact h.elim
  · -- typeAssert
    rename_i x xt t
    split at h
    · rename_i t' a d e1 e2
      cases hc : (Nat.beq t' t && !d.isIface) with
      | false => rw [hc] at h; exact h.elim
      | true =>
        rw [hc, cond_true] at h
        simp only [Bool.and_eq_true] at hc
        have := Nat.eq_of_beq_eq_true hc.1
        subst this
        exact l_typeAssert hT hop e1 e2 (fun hd => by rw [hd] at hc; exact absurd hc.2 (by simp [D.isIface])) h
    · exact h.elim
  · -- makeMap
    split at h
    · split at h
      · exact l_makeMap hop h
      · exact h.elim
    · exact h.elim
  · split at h
    · rename_i e1 e2; exact l_lookup hT hop e1 e2 h
    · exact h.elim
  · split at h
    · rename_i e1 e2 e3; exact l_mapUpdate hT hop e1 e2 e3 h
    · exact h.elim
  · split at h
    · rename_i a b e1 e2
      split at h
      · rename_i l c e3 e4
        obtain ⟨k, rfl⟩ := isInt_inv e3
        obtain ⟨k', rfl⟩ := isInt_inv e4
        exact l_makeSlice hT hop e1 e2 h
      · exact h.elim
    · exact h.elim
  · split at h
    · rename_i a e1
      split at h
      · rename_i v e2; exact l_unOp hop e1 e2 h
      · exact h.elim
    · exact h.elim
  · split at h
    · rename_i e1 e2 e3; exact l_convI hT hop e1 e2 e3 h
    · rename_i e1 e2 e3; exact l_convS hT hop e1 e2 e3 h
    · exact h.elim
  · split at h
    · rename_i l e1
      split at h
      · rename_i a e2; exact l_extract hop e1 e2 h
      · exact h.elim
    · exact h.elim
  · split at h
    · exact h.elim
    · rename_i hne e1 e2
      refine l_makeInterface hT e2 (fun hd => ?_) hop e1 h
      rename_i i
      obtain ⟨d, a, b, c, q⟩ := i
      simp only at hd
      subst hd
      exact hne _ _ _ _ rfl
    · exact h.elim
  · rename_i f fs cs
    cases hc : Nat.beq fs.size 0 with
    | false => rw [hc] at h; exact h.elim
    | true =>
      rw [hc, cond_true] at h
      split at h
      · rename_i l e; exact l_makeFunc hop (Nat.eq_of_beq_eq_true hc) e h
      · exact h.elim
  · split at h
    · rename_i e1 e2 e3; exact l_slice hT hop e1 e2 e3 h
    · exact h.elim
  · split at h
    · rename_i hd off e1
      split at h
      · rename_i b e2; exact l_nilCheckP hop e1 e2 h
      · exact h.elim
    · rename_i e1; exact l_nilCheckE hop e1 h
    · rename_i e1; exact l_nilCheckF hop e1 h
    · exact h.elim
  · split at h
    · rename_i e1; exact l_len hT hop e1 h
    · exact h.elim
  · rename_i x y t t'
    cases hc : Nat.beq t t' with
    | false => rw [hc] at h; exact h.elim
    | true =>
      have := Nat.eq_of_beq_eq_true hc
      subst this
      rw [hc, cond_true] at h
      split at h
      · rename_i e1 e2; exact l_append hT hop e1 e2 h
      · exact h.elim
  · exact h.elim
end
end Go.Proofs.Ytbpcbhmdjphodaa.am

namespace Go.Proofs.Ytbpcbhmdjphodaa.am
open Go
set_option linter.unusedSimpArgs false

def has (l : List Nat) (h : Nat) : Bool := l.any fun k => Nat.beq k h
theorem has_iff {l : List Nat} {h : Nat} : has l h = true ↔ h ∈ l := by
  unfold has
  rw [List.any_eq_true]
  exact ⟨fun ⟨x, hx, he⟩ => Nat.eq_of_beq_eq_true he ▸ hx, fun hx => ⟨h, hx, Nat.beq_refl h⟩⟩
/-- a slice of one's own, seen as a tree -/
def sees (m : Mem) (h len : Nat) (t : Tr) : Prop := match m h with | some (.vec _ n B rows) => len ≤ rows.length ∧ t = .lst n B (rows.take len) | _ => False
mutual
/-- a value, and the same seen through other handles: i there is what ρ[i] is here; those of nl are nil; what S holds may be seen as trees -/
def cv (m : Mem) (ρ nl : List Nat) (S : Nat → Bool) : AV → AV → Prop
  | .tr t, .tr t' => t = t' ∨ (t = .v (.slice none 0 0) ∧ ∃ n B, t' = .lst n B [])
  | .sl h len, .tr t' => S h = true ∧ sees m h len t'
  | .tr t, .sl i len => t = .v (.slice none 0 0) ∧ len = 0 ∧ ρ[i]? = none ∧ has nl i = true
  | .sl h len, .sl i len' => ρ[i]? = some h ∧ len = len'
  | .und, .und => True
  | .agg l, .agg l' => cvL m ρ nl S l l'
  | .tup l, .tup l' => cvL m ρ nl S l l'
  | .ptr h off, .ptr i off' => ρ[i]? = some h ∧ off = off'
  | .vpt h n k off, .vpt i n' k' off' => ρ[i]? = some h ∧ n = n' ∧ k = k' ∧ off = off'
  | .ept cs, .ept cs' => cs = cs'
  | .fn f l, .fn f' l' => f = f' ∧ cvL m ρ nl S l l'
  | .ifc t a, .ifc t' a' => t = t' ∧ cv m ρ nl S a a'
  | .mp h, .mp i => ρ[i]? = some h
  | _, _ => False
def cvL (m : Mem) (ρ nl : List Nat) (S : Nat → Bool) : List AV → List AV → Prop
  | [], [] => True
  | a :: l, a' :: l' => cv m ρ nl S a a' ∧ cvL m ρ nl S l l'
  | _, _ => False
end
def cvB (m : Mem) (ρ nl : List Nat) (S : Nat → Bool) : Blk → Blk → Prop
  | .cells t l, .cells t' l' => t = t' ∧ cvL m ρ nl S l l'
  | .vec e n B rows, .vec e' n' B' rows' => e = e' ∧ n = n' ∧ B = B' ∧ rows = rows'
  | .map kd es, .map kd' es' => kd = kd' ∧ es = es'
  | _, _ => False
def gsub (g : Gh) (ρ nl : List Nat) (X : Nat → Prop) : Gh := ⟨fun i => match ρ[i]? with | some h => g h | none => if has nl i then .live .nil else .un, X, []⟩

section
variable {g : Gh} {w : World} {m : Mem} {ρ nl : List Nat} {S : Nat → Bool} {X : Nat → Prop}
theorem gsub_some {i h : Nat} (hi : ρ[i]? = some h) : gsub g ρ nl X i = g h := by simp [gsub, hi]
/-- what was ok, or is seen, is ok -/
def SubOk (g : Gh) (w : World) (ρ : List Nat) (S : Nat → Bool) (X : Nat → Prop) : Prop :=
  (∀ b, okB g w b → ¬ X b) ∧ (∀ h l b, S h = true → g h = .live l → l.b = some b → ¬ X b) ∧ ∀ h, S h = true → h ∉ ρ
theorem SubOk.ok (hs : SubOk g w ρ S X) {b : Nat} (hb : okB g w b) : okB (gsub g ρ nl X) w b := by
  refine ⟨hb.1, hs.1 b hb, fun i l e1 e2 => ?_⟩
  unfold gsub at e1
  simp only at e1
  split at e1
  · exact hb.2.2 _ l e1 e2
  · split at e1
    · cases e1; cases e2
    · cases e1
theorem SubOk.seen (hs : SubOk g w ρ S X) (hm : MSt g w m) {h b : Nat} {l : Loc} (hS : S h = true) (hh : g h = .live l) (hl : l.b = some b) : okB (gsub g ρ nl X) w b := by
  refine ⟨hm.lt h l b hh hl, hs.2.1 h l b hS hh hl, fun i l' e1 e2 => ?_⟩
  unfold gsub at e1
  simp only at e1
  split at e1
  · rename_i k hk
    have := hm.inj h k l l' b hh e1 hl e2
    exact hs.2.2 h hS (this ▸ List.mem_of_getElem? hk)
  · split at e1
    · cases e1; cases e2
    · cases e1
theorem sees_rep (hs : SubOk g w ρ S X) (hm : MSt g w m) {h len : Nat} {t : Tr} {x : Value} (hS : S h = true) (ht : sees m h len t) (hr : Rep g w x (.sl h len)) : RepT (okB (gsub g ρ nl X) w) w x t := by
  unfold sees at ht
  split at ht
  case h_2 => exact ht.elim
  rename_i e n B rows em
  obtain ⟨hle, rfl⟩ := ht
  obtain ⟨l, g1, g2⟩ := hm.blk h _ em
  obtain ⟨hB, hn, ⟨rfl, rfl⟩ | ⟨b, cap, cur, rfl, e1, e2, e3, e4, e5, e6⟩⟩ := g2
  · rcases hr.sl_inv g1 with ⟨b, cap, e0, _, _⟩ | ⟨_, rfl, rfl⟩
    · cases e0
    · exact .lst (fun _ _ => default) (by simp) (Nat.le_refl _) (by omega) (by omega) (fun _ => rfl) (fun i row h => by simp at h) (fun i row j t h => by simp at h)
  · rcases hr.sl_inv g1 with ⟨b', cap', e0, e7, rfl⟩ | ⟨e0, _, _⟩
    · cases e0
      have hok := hs.seen (nl := nl) hm hS g1 rfl
      have hrow : ∀ i row, (rows.take len)[i]? = some row → rows[i]? = some row := fun i row h => by
        rw [List.getElem?_take] at h
        split at h
        · exact h
        · cases h
      have hlb : len * B ≤ rows.length * B := Nat.mul_le_mul_right _ hle
      refine .lst (fun i j => (cur[i * n + j]?).getD default) (by rw [List.length_take]; omega) e7 e3 (by omega) (by simp) (fun i row hi => ?_) fun i row j t hi hj => ?_
      · have hi' := hrow i row hi
        have hlt := (List.getElem?_eq_some_iff.1 hi').1
        have hsz : i * n + n ≤ cur.size := by
          have : (i + 1) * n ≤ cap * n := Nat.mul_le_mul_right _ (by omega)
          rw [Nat.succ_mul] at this; omega
        refine ⟨e5 row (List.mem_of_getElem? hi'), b, 0, rfl, hok, fun j hj => ?_⟩
        rw [heap_cell e1, Nat.zero_add]
        simp [show i * n + j < cur.size by omega]
      · obtain ⟨c, c1, c2⟩ := vec_row e5 e6 (hrow i row hi) hj
        rw [c1]
        exact c2.mono fun b hb => ⟨hs.ok hb, rfl⟩
    · cases e0
theorem cvL_get : ∀ {l l' : List AV}, cvL m ρ nl S l l' → l.length = l'.length ∧ ∀ (i : Nat) (a' : AV), l'[i]? = some a' → ∃ a, l[i]? = some a ∧ cv m ρ nl S a a'
  | [], [], _ => ⟨rfl, fun i a' h => by simp at h⟩
  | a :: l, a' :: l', h => by
    unfold cvL at h
    obtain ⟨h1, h2⟩ := cvL_get h.2
    refine ⟨by simp [h1], fun i b hb => ?_⟩
    cases i with
    | zero => simp at hb; subst hb; exact ⟨a, rfl, h.1⟩
    | succ i => exact h2 i b (by simpa using hb)
  | [], _ :: _, h => by unfold cvL at h; exact h.elim
  | _ :: _, [], h => by unfold cvL at h; exact h.elim
theorem cv_one {a a' : AV} (h : cv m ρ nl S a a') (h1 : a.one = true) : a'.one = true := by
  cases a <;> cases a' <;> first | rfl | (unfold cv at h; exact h.elim) | cases h1
theorem cv_rep (hs : SubOk g w ρ S X) (hm : MSt g w m) {x : Value} {a : AV} (hr : Rep g w x a) : ∀ {a' : AV}, cv m ρ nl S a a' → Rep (gsub g ρ nl X) w x a' := by
  have idx : ∀ {i h : Nat} {q : HS}, ρ[i]? = some h → g h = q → gsub g ρ nl X i = q := fun hi hq => (gsub_some hi).trans hq
  have cells : ∀ {cs : Array Value} {l l' : List AV}, cs.size = l.length → (∀ (i : Nat) (c : Value) (a : AV), cs[i]? = some c → l[i]? = some a → ∀ {a' : AV}, cv m ρ nl S a a' → Rep (gsub g ρ nl X) w c a') → cvL m ρ nl S l l' →
      cs.size = l'.length ∧ ∀ (i : Nat) (c : Value) (a : AV), cs[i]? = some c → l'[i]? = some a → Rep (gsub g ρ nl X) w c a := fun h1 ih hc => by
    obtain ⟨e1, e2⟩ := cvL_get hc
    refine ⟨h1.trans e1, fun i c a q1 q2 => ?_⟩
    obtain ⟨b, e3, e4⟩ := e2 i a q2
    exact ih i c b q1 e3 e4
  induction hr with
  | und =>
    intro a' hc
    cases a' <;> first | exact .und | (unfold cv at hc; exact hc.elim)
  | tr h =>
    intro a' hc
    cases a' with
    | tr t' =>
      unfold cv at hc
      have h' := h.mono (ok' := okB (gsub g ρ nl X) w) (w' := w) fun b hb => ⟨hs.ok hb, rfl⟩
      rcases hc with rfl | ⟨rfl, n, B, rfl⟩
      · exact .tr h'
      · exact .tr (h'.nil n B)
    | sl i len =>
      unfold cv at hc
      obtain ⟨rfl, rfl, hn, hi⟩ := hc
      cases h
      exact .slN (by simp [gsub, hn, hi])
    | _ => unfold cv at hc; exact hc.elim
  | agg h1 h2 h3 ih =>
    intro a' hc
    cases a' with
    | agg l' =>
      unfold cv at hc
      obtain ⟨e1, e2⟩ := cells h1 ih hc
      obtain ⟨q1, q2⟩ := cvL_get hc
      refine .agg e1 (fun a ha => ?_) e2
      obtain ⟨i, hi⟩ := List.mem_iff_getElem?.1 ha
      obtain ⟨b, q3, q4⟩ := q2 i a hi
      exact cv_one q4 (h2 b (List.mem_of_getElem? q3))
    | _ => unfold cv at hc; exact hc.elim
  | tup h1 h3 ih =>
    intro a' hc
    cases a' with
    | tup l' =>
      unfold cv at hc
      obtain ⟨e1, e2⟩ := cells h1 ih hc
      exact .tup e1 e2
    | _ => unfold cv at hc; exact hc.elim
  | ptrD h1 h2 =>
    intro a' hc
    cases a' <;> first | (unfold cv at hc; exact hc.elim) | (unfold cv at hc; exact .ptrD (idx hc.1 h1) h2)
  | ptr h1 =>
    intro a' hc
    cases a' <;> first | (unfold cv at hc; exact hc.elim) | (unfold cv at hc; obtain ⟨e1, rfl⟩ := hc; exact .ptr (idx e1 h1))
  | vptD h1 h2 =>
    intro a' hc
    cases a' <;> first | (unfold cv at hc; exact hc.elim) | (unfold cv at hc; exact .vptD (idx hc.1 h1) h2)
  | vpt h1 =>
    intro a' hc
    cases a' <;> first | (unfold cv at hc; exact hc.elim) | (unfold cv at hc; obtain ⟨e1, rfl, rfl, rfl⟩ := hc; exact .vpt (idx e1 h1))
  | slD h1 h2 =>
    intro a' hc
    cases a' with
    | tr t' =>
      unfold cv at hc
      obtain ⟨hS, hsee⟩ := hc
      unfold sees at hsee
      split at hsee
      · rename_i e n B rows em
        obtain ⟨l, g1, _⟩ := hm.blk _ _ em
        rw [h1] at g1; cases g1
      · exact hsee.elim
    | sl i len => unfold cv at hc; exact .slD (idx hc.1 h1) h2
    | _ => unfold cv at hc; exact hc.elim
  | sl h1 h2 =>
    intro a' hc
    cases a' with
    | tr t' => unfold cv at hc; exact .tr (sees_rep hs hm hc.1 hc.2 (.sl h1 h2))
    | sl i len => unfold cv at hc; obtain ⟨e1, rfl⟩ := hc; exact .sl (idx e1 h1) h2
    | _ => unfold cv at hc; exact hc.elim
  | slN h1 =>
    intro a' hc
    cases a' with
    | tr t' => unfold cv at hc; exact .tr (sees_rep hs hm hc.1 hc.2 (.slN h1))
    | sl i len => unfold cv at hc; obtain ⟨e1, rfl⟩ := hc; exact .slN (idx e1 h1)
    | _ => unfold cv at hc; exact hc.elim
  | ept f h1 h2 h3 =>
    intro a' hc
    cases a' with
    | ept cs => unfold cv at hc; subst hc; exact .ept f (hs.ok h1) h2 fun j t hj => (h3 j t hj).mono fun b hb => ⟨hs.ok hb, rfl⟩
    | _ => unfold cv at hc; exact hc.elim
  | fn h1 h3 ih =>
    intro a' hc
    cases a' with
    | fn f l' =>
      unfold cv at hc
      obtain ⟨rfl, hc⟩ := hc
      obtain ⟨e1, e2⟩ := cells h1 ih hc
      exact .fn e1 e2
    | _ => unfold cv at hc; exact hc.elim
  | ifc h1 ih =>
    intro a' hc
    cases a' with
    | ifc t' b => unfold cv at hc; obtain ⟨rfl, hc⟩ := hc; exact .ifc (ih hc)
    | _ => unfold cv at hc; exact hc.elim
  | mpD h1 h2 =>
    intro a' hc
    cases a' <;> first | (unfold cv at hc; exact hc.elim) | (unfold cv at hc; exact .mpD (idx hc h1) h2)
  | mp h1 =>
    intro a' hc
    cases a' <;> first | (unfold cv at hc; exact hc.elim) | (unfold cv at hc; exact .mp (idx hc h1))
/-- a memory, and the same seen through other handles -/
def cvM (m m' : Mem) (ρ nl : List Nat) (S : Nat → Bool) : Prop :=
  ∀ i b', m' i = some b' → (∃ h b, ρ[i]? = some h ∧ m h = some b ∧ cvB m ρ nl S b b') ∨ (ρ[i]? = none ∧ has nl i = true ∧ ∃ e n B, b' = .vec e n B [] ∧ 0 < n)
theorem cvB_rep (hs : SubOk g w ρ S X) (hm : MSt g w m) {l : Loc} {b b' : Blk} (h : BRep g w l b) (hc : cvB m ρ nl S b b') : BRep (gsub g ρ nl X) w l b' := by
  cases b with
  | cells t as =>
    cases b' with
    | cells t' as' =>
      unfold cvB at hc
      obtain ⟨rfl, hc⟩ := hc
      obtain ⟨k, cs, rfl, e, h1, h2, h3⟩ := h
      obtain ⟨q1, q2⟩ := cvL_get hc
      refine ⟨k, cs, rfl, e, h1.trans q1, fun a ha => ?_, fun i c a e1 e2 => ?_⟩
      · obtain ⟨i, hi⟩ := List.mem_iff_getElem?.1 ha
        obtain ⟨b, q3, q4⟩ := q2 i a hi
        exact cv_one q4 (h2 b (List.mem_of_getElem? q3))
      · obtain ⟨b, q3, q4⟩ := q2 i a e2
        exact cv_rep hs hm (h3 i c b e1 q3) q4
    | vec e n B rows => unfold cvB at hc; exact hc.elim
    | map kd es => unfold cvB at hc; exact hc.elim
  | map kd es =>
    cases b' with
    | map kd' es' =>
      unfold cvB at hc
      obtain ⟨rfl, rfl⟩ := hc
      obtain ⟨k, ents, clock, rfl, e1, e2, e3, e4⟩ := h
      exact ⟨k, ents, clock, rfl, e1, e2, e3, fun i q t hi => by obtain ⟨en, c1, c2, c3⟩ := e4 i q t hi; exact ⟨en, c1, c2, c3.mono fun b hb => ⟨hs.ok hb, rfl⟩⟩⟩
    | cells t' as' => unfold cvB at hc; exact hc.elim
    | vec e n B rows => unfold cvB at hc; exact hc.elim
  | vec e n B rows =>
    cases b' with
    | cells t' as' => unfold cvB at hc; exact hc.elim
    | map kd es => unfold cvB at hc; exact hc.elim
    | vec e' n' B' rows' =>
      unfold cvB at hc
      obtain ⟨rfl, rfl, rfl, rfl⟩ := hc
      obtain ⟨hB, hn, hv⟩ := h
      refine ⟨hB, hn, ?_⟩
      rcases hv with hv | ⟨k, cap, cur, rfl, e1, e2, e3, e4, e5, e6⟩
      · exact .inl hv
      · exact .inr ⟨k, cap, cur, rfl, e1, e2, e3, e4, e5, fun i t hi => by obtain ⟨c, c1, c2⟩ := e6 i t hi; exact ⟨c, c1, c2.mono fun b hb => ⟨hs.ok hb, rfl⟩⟩⟩
theorem nodup_get {l : List Nat} (h : l.Nodup) {i j k : Nat} (hi : l[i]? = some k) (hj : l[j]? = some k) : i = j := by
  have h1 := (List.getElem?_eq_some_iff.1 hi)
  have h2 := (List.getElem?_eq_some_iff.1 hj)
  obtain ⟨a1, a2⟩ := h1
  obtain ⟨b1, b2⟩ := h2
  have hp := List.pairwise_iff_getElem.1 h
  rcases Nat.lt_trichotomy i j with q | q | q
  · exact absurd (a2.trans b2.symm) (hp i j a1 b1 q)
  · exact q
  · exact absurd (b2.trans a2.symm) (hp j i b1 a1 q)
theorem cvM_mst (hs : SubOk g w ρ S X) (hm : MSt g w m) (hρ : ρ.Nodup) (hX : ∀ b, X b → b < w.heap.size) (hXl : ∀ (i h : Nat) (l : Loc) (b : Nat), ρ[i]? = some h → g h = .live l → l.b = some b → ¬ X b) {m' : Mem} (hc : cvM m m' ρ nl S) : MSt (gsub g ρ nl X) w m' := by
  have key : ∀ {i l b}, gsub g ρ nl X i = .live l → l.b = some b → ∃ h, ρ[i]? = some h ∧ g h = .live l := fun {i l b} e1 e2 => by
    unfold gsub at e1
    simp only at e1
    split at e1
    · exact ⟨_, by assumption, e1⟩
    · split at e1
      · cases e1; cases e2
      · cases e1
  refine ⟨fun i b' hb' => ?_, fun i j l l' b e1 e2 e3 e4 => ?_, fun i l b e1 e2 => ?_, hX, fun i l b e1 e2 => ?_⟩
  · rcases hc i b' hb' with ⟨h, b, q1, q2, q3⟩ | ⟨q1, q2, e, n, B, rfl, q4⟩
    · obtain ⟨l, e1, e2⟩ := hm.blk h b q2
      exact ⟨l, (gsub_some q1).trans e1, cvB_rep hs hm e2 q3⟩
    · exact ⟨.nil, by simp [gsub, q1, q2], ⟨by simp, q4, .inl ⟨rfl, rfl⟩⟩⟩
  · obtain ⟨h, q1, q2⟩ := key e1 e3
    obtain ⟨h', q3, q4⟩ := key e2 e4
    have := hm.inj h h' l l' b q2 q4 e3 e4
    subst this
    exact nodup_get hρ q1 q3
  · obtain ⟨h, q1, q2⟩ := key e1 e2
    exact hm.lt h l b q2 e2
  · obtain ⟨h, q1, q2⟩ := key e1 e2
    exact hXl i h l b q1 q2 e2
end

/-! contracts -/
inductive AE where
  | ret (a : AV)
  | pan (a : AV)
def AE.is (g : Gh) (w : World) : AE → Ending → Prop
  | .ret a, .returned v => Rep g w v a
  | .pan a, .panicked ch => ∃ v, ch = [{ v, recovered := false }] ∧ Rep g w v a
  | _, _ => False
def ofL (l : List Blk) : Mem := fun h => l[h]?
def ofLO (l : List (Option Blk)) : Mem := fun h => (l[h]?).join
/-- handle k and those behind it stand for nothing -/
def Under (g : Gh) (k : Nat) : Prop := ∀ h, k ≤ h → ∀ l, g h ≠ .live l
def Callable (P : Program) (f : Nat) : Prop := ∀ (args : Array Value) (w : World), (callFunc f args).run P w = .ok (.enter f args) w
/-- A contract: from these arguments, over these blocks, the call ends so and leaves the blocks so. -/
structure Ctr (P : Program) (f : Nat) (args : List AV) (bin : List Blk) (res : AE) (bout : List (Option Blk)) : Prop where
  callable : Callable P f
  run : ∀ (g : Gh) (w : World) (vs : Array Value), (∀ h, bin.length ≤ h → g h = .un) → MSt g w (ofL bin) → vs.size = args.length → (∀ (i : Nat) (v : Value) (a : AV), vs[i]? = some v → args[i]? = some a → Rep g w v a) →
    Calls P f vs w fun e w' => ∃ g', Grow g w g' w' ∧ MSt g' w' (ofLO bout) ∧ Under g' bout.length ∧ res.is g' w' e
end Go.Proofs.Ytbpcbhmdjphodaa.am

namespace Go.Proofs.Ytbpcbhmdjphodaa.am
open Go
set_option linter.unusedSimpArgs false

def idx : List Nat → Nat → Option Nat
  | [], _ => none
  | k :: r, h => bif Nat.beq k h then some 0 else match idx r h with | some i => some (i + 1) | none => none
theorem idx_some {h : Nat} : ∀ {ρ : List Nat} {i : Nat}, idx ρ h = some i → ρ[i]? = some h := by
  intro ρ
  induction ρ with
  | nil => intro i e; cases e
  | cons k r ih =>
    intro i e
    unfold idx at e
    cases hb : Nat.beq k h with
    | true => rw [hb] at e; cases e; rw [Nat.eq_of_beq_eq_true hb]; rfl
    | false =>
      rw [hb, cond_false] at e
      split at e
      · rename_i j ej; cases e; exact ih ej
      · cases e
theorem idx_none {h : Nat} : ∀ {ρ : List Nat}, idx ρ h = none → h ∉ ρ := by
  intro ρ
  induction ρ with
  | nil => intro _; simp
  | cons k r ih =>
    intro e
    unfold idx at e
    cases hb : Nat.beq k h with
    | true => rw [hb] at e; cases e
    | false =>
      rw [hb, cond_false] at e
      split at e
      · cases e
      · rename_i ej
        simp only [List.mem_cons, not_or]
        exact ⟨fun q => by (rw [q, Nat.beq_refl] at hb; cases hb), ih ej⟩
theorem idx_of {ρ : List Nat} (hn : ρ.Nodup) {h i : Nat} (hi : ρ[i]? = some h) : idx ρ h = some i := by
  cases e : idx ρ h with
  | none => exact absurd (List.mem_of_getElem? hi) (idx_none e)
  | some j => rw [nodup_get hn (idx_some e) hi]
mutual
def AV.out (ρ : List Nat) : AV → AV
  | .und => .und
  | .tr t => .tr t
  | .agg l => .agg (outL ρ l)
  | .tup l => .tup (outL ρ l)
  | .ptr h off => .ptr (ρ.getD h 0) off
  | .vpt h n i off => .vpt (ρ.getD h 0) n i off
  | .sl h len => .sl (ρ.getD h 0) len
  | .ept cs => .ept cs
  | .fn f l => .fn f (outL ρ l)
  | .ifc t a => .ifc t (a.out ρ)
  | .mp h => .mp (ρ.getD h 0)
def outL (ρ : List Nat) : List AV → List AV
  | [] => []
  | a :: l => a.out ρ :: outL ρ l
end
mutual
def AV.lowH (k : Nat) : AV → Bool
  | .und | .tr _ | .ept _ => true
  | .agg l | .tup l | .fn _ l => belowL k l
  | .ptr h _ | .vpt h _ _ _ | .sl h _ | .mp h => Nat.blt h k
  | .ifc _ a => a.lowH k
def belowL (k : Nat) : List AV → Bool
  | [] => true
  | a :: l => a.lowH k && belowL k l
end
mutual
/-- no memory in it -/
def AV.scal : AV → Bool
  | .und | .tr (.v _) => true
  | .agg l | .tup l => scalL l
  | .ifc _ a => a.scal
  | _ => false
def scalL : List AV → Bool
  | [] => true
  | a :: l => a.scal && scalL l
end
def Blk.out (ρ : List Nat) : Blk → Blk
  | .cells t l => .cells t (outL ρ l)
  | b => b
def Blk.lowH (k : Nat) : Blk → Bool
  | .cells _ l => belowL k l
  | .vec .. | .map .. => true
def boutOk (k : Nat) : List (Option Blk) → Bool
  | [] => true
  | none :: r => boutOk k r
  | some b :: r => b.lowH k && boutOk k r
def upOf (ρ : List Nat) : List Nat → List (Option Blk) → List (Nat × Option Blk)
  | h :: hs, b :: bs => (h, match b with | some b => some (b.out ρ) | none => none) :: upOf ρ hs bs
  | _, _ => []
def kills (sn : List Nat) : List (Nat × Option Blk) := sn.map fun h => (h, none)
def rdOf (m : Mem) : List Nat → List (Nat × Blk)
  | [] => []
  | h :: r => match m h with | some b => (h, b) :: rdOf m r | none => rdOf m r
def seenS (ρ sn : List Nat) (h : Nat) : Bool := has sn h && !has ρ h

theorem outL_length (ρ : List Nat) : ∀ l, (outL ρ l).length = l.length
  | [] => rfl
  | a :: l => by unfold outL; simp [outL_length ρ l]
theorem outL_get (ρ : List Nat) : ∀ (l : List AV) (i : Nat), (outL ρ l)[i]? = (l[i]?).map (AV.out ρ)
  | [], i => by simp [outL]
  | a :: l, 0 => by simp [outL]
  | a :: l, i + 1 => by simpa [outL] using outL_get ρ l i
theorem belowL_get {k : Nat} : ∀ {l : List AV}, belowL k l = true → ∀ {i : Nat} {a : AV}, l[i]? = some a → a.lowH k = true
  | [], _, i, a, hi => by simp at hi
  | b :: l, h, i, a, hi => by
    unfold belowL at h
    simp only [Bool.and_eq_true] at h
    cases i with
    | zero => simp at hi; subst hi; exact h.1
    | succ i => exact belowL_get h.2 (by simpa using hi)
theorem scalL_get : ∀ {l : List AV}, scalL l = true → ∀ {i : Nat} {a : AV}, l[i]? = some a → a.scal = true
  | [], _, i, a, hi => by simp at hi
  | b :: l, h, i, a, hi => by
    unfold scalL at h
    simp only [Bool.and_eq_true] at h
    cases i with
    | zero => simp at hi; subst hi; exact h.1
    | succ i => exact scalL_get h.2 (by simpa using hi)
theorem out_one (ρ : List Nat) (a : AV) : (a.out ρ).one = a.one := by cases a <;> rfl

section
variable {g gn g' : Gh} {w w' : World} {ρ : List Nat} {k : Nat}
theorem Rep.out (hk : k = ρ.length) (hok : ∀ b, okB g' w' b → okB gn w' b) (hh : ∀ i h, ρ[i]? = some h → gn h = g' i) {x : Value} {a : AV} (hr : Rep g' w' x a) : a.lowH k = true → Rep gn w' x (a.out ρ) := by
  have hdl : ∀ {i : Nat} {q : HS}, Nat.blt i k = true → g' i = q → gn (ρ.getD i 0) = q := fun {i q} hb hq => by
    have hlt : i < ρ.length := by
      have := Nat.le_of_ble_eq_true hb; omega
    rw [← hq]
    refine hh i _ ?_
    simp [hlt]
  have cells : ∀ {cs : Array Value} {l : List AV}, (∀ (i : Nat) (c : Value) (a : AV), cs[i]? = some c → l[i]? = some a → a.lowH k = true → Rep gn w' c (a.out ρ)) → belowL k l = true →
      ∀ (i : Nat) (c : Value) (a : AV), cs[i]? = some c → (outL ρ l)[i]? = some a → Rep gn w' c a := fun ih hb i c a e1 e2 => by
    rw [outL_get, Option.map_eq_some_iff] at e2
    obtain ⟨b, q1, rfl⟩ := e2
    exact ih i c b e1 q1 (belowL_get hb q1)
  induction hr with
  | und => intro _; exact .und
  | tr h => intro _; exact .tr (h.mono fun b hb => ⟨hok b hb, rfl⟩)
  | agg h1 h2 h3 ih =>
    intro hb
    refine .agg (by rw [outL_length]; exact h1) (fun a ha => ?_) (cells ih hb)
    obtain ⟨i, hi⟩ := List.mem_iff_getElem?.1 ha
    rw [outL_get, Option.map_eq_some_iff] at hi
    obtain ⟨b, q1, rfl⟩ := hi
    rw [out_one]
    exact h2 b (List.mem_of_getElem? q1)
  | tup h1 h3 ih => intro hb; exact .tup (by rw [outL_length]; exact h1) (cells ih hb)
  | ptrD h1 h2 => intro hb; exact .ptrD (hdl hb h1) h2
  | ptr h1 => intro hb; exact .ptr (hdl hb h1)
  | vptD h1 h2 => intro hb; exact .vptD (hdl hb h1) h2
  | vpt h1 => intro hb; exact .vpt (hdl hb h1)
  | slD h1 h2 => intro hb; exact .slD (hdl hb h1) h2
  | sl h1 h2 => intro hb; exact .sl (hdl hb h1) h2
  | slN h1 => intro hb; exact .slN (hdl hb h1)
  | ept f h1 h2 h3 => intro _; exact .ept f (hok _ h1) h2 fun j t hj => (h3 j t hj).mono fun b hb => ⟨hok b hb, rfl⟩
  | fn h1 h3 ih => intro hb; exact .fn (by rw [outL_length]; exact h1) (cells ih hb)
  | ifc h1 ih => intro hb; exact .ifc (ih hb)
  | mpD h1 h2 => intro hb; exact .mpD (hdl hb h1) h2
  | mp h1 => intro hb; exact .mp (hdl hb h1)
theorem Rep.scal {x : Value} {a : AV} (hr : Rep g' w' x a) : a.scal = true → Rep gn w x (a.out ρ) := by
  induction hr with
  | und => intro _; exact .und
  | tr h =>
    intro hs
    rename_i t
    cases t with
    | v y => cases h with | v hg => exact .tr (.v hg)
    | lst => cases hs
  | agg h1 h2 h3 ih =>
    intro hs
    refine .agg (by rw [outL_length]; exact h1) (fun a ha => ?_) fun i c a e1 e2 => ?_
    · obtain ⟨i, hi⟩ := List.mem_iff_getElem?.1 ha
      rw [outL_get, Option.map_eq_some_iff] at hi
      obtain ⟨b, q1, rfl⟩ := hi
      rw [out_one]; exact h2 b (List.mem_of_getElem? q1)
    · rw [outL_get, Option.map_eq_some_iff] at e2
      obtain ⟨b, q1, rfl⟩ := e2
      exact ih i c b e1 q1 (scalL_get hs q1)
  | tup h1 h3 ih =>
    intro hs
    refine .tup (by rw [outL_length]; exact h1) fun i c a e1 e2 => ?_
    rw [outL_get, Option.map_eq_some_iff] at e2
    obtain ⟨b, q1, rfl⟩ := e2
    exact ih i c b e1 q1 (scalL_get hs q1)
  | ifc h1 ih => intro hs; exact .ifc (ih hs)
  | _ => intro hs; cases hs
theorem BRep.out (hk : k = ρ.length) (hok : ∀ b, okB g' w' b → okB gn w' b) (hh : ∀ i h, ρ[i]? = some h → gn h = g' i) {l : Loc} {b : Blk} (hr : BRep g' w' l b) (hb : b.lowH k = true) : BRep gn w' l (b.out ρ) := by
  cases b with
  | cells t as =>
    obtain ⟨j, cs, rfl, e, h1, h2, h3⟩ := hr
    refine ⟨j, cs, rfl, e, by rw [outL_length]; exact h1, fun a ha => ?_, fun i c a e1 e2 => ?_⟩
    · obtain ⟨i, hi⟩ := List.mem_iff_getElem?.1 ha
      rw [outL_get, Option.map_eq_some_iff] at hi
      obtain ⟨b, q1, rfl⟩ := hi
      rw [out_one]
      exact h2 b (List.mem_of_getElem? q1)
    · rw [outL_get, Option.map_eq_some_iff] at e2
      obtain ⟨b, q1, rfl⟩ := e2
      exact (h3 i c b e1 q1).out hk hok hh (belowL_get hb q1)
  | vec e n B rows =>
    obtain ⟨hB, hn, hv⟩ := hr
    refine ⟨hB, hn, ?_⟩
    rcases hv with hv | ⟨j, cap, cur, rfl, e1, e2, e3, e4, e5, e6⟩
    · exact .inl hv
    · exact .inr ⟨j, cap, cur, rfl, e1, e2, e3, e4, e5, fun i t hi => by obtain ⟨c, c1, c2⟩ := e6 i t hi; exact ⟨c, c1, c2.mono fun b hb => ⟨hok b hb, rfl⟩⟩⟩
  | map kd es =>
    obtain ⟨j, ents, clock, rfl, e1, e2, e3, e4⟩ := hr
    exact ⟨j, ents, clock, rfl, e1, e2, e3, fun i q t hi => by obtain ⟨en, c1, c2, c3⟩ := e4 i q t hi; exact ⟨en, c1, c2, c3.mono fun b hb => ⟨hok b hb, rfl⟩⟩⟩
end

/-! the memory behind a call -/
theorem up_some {ρ0 : List Nat} {h : Nat} : ∀ {ρ : List Nat} {bout : List (Option Blk)} (_ : ρ.length = bout.length) {i : Nat}, idx ρ h = some i → lk (upOf ρ0 ρ bout) h = some ((bout[i]?).join.map (Blk.out ρ0)) := by
  intro ρ
  induction ρ with
  | nil => intro bout _ i e; cases e
  | cons k r ih =>
    intro bout hl i e
    cases bout with
    | nil => simp at hl
    | cons b bs =>
      unfold idx at e
      unfold upOf lk
      cases hb : Nat.beq k h with
      | true => rw [hb] at e; cases e; cases b <;> rfl
      | false =>
        rw [hb, cond_false] at e
        split at e
        · rename_i j ej
          cases e
          rw [cond_false, ih (by simpa using hl) ej]
          simp
        · cases e
theorem up_none {ρ0 : List Nat} {h : Nat} : ∀ {ρ : List Nat} {bout : List (Option Blk)}, idx ρ h = none → lk (upOf ρ0 ρ bout) h = none := by
  intro ρ
  induction ρ with
  | nil => intro bout _; unfold upOf; rfl
  | cons k r ih =>
    intro bout e
    cases bout with
    | nil => unfold upOf; rfl
    | cons b bs =>
      unfold idx at e
      unfold upOf lk
      cases hb : Nat.beq k h with
      | true => rw [hb] at e; cases e
      | false =>
        rw [hb, cond_false] at e
        split at e
        · cases e
        · rename_i ej; rw [cond_false]; exact ih ej
theorem lk_cons {α : Type} (k : Nat) (x : α) (r : List (Nat × α)) (h : Nat) : lk ((k, x) :: r) h = bif Nat.beq k h then some x else lk r h := rfl
theorem lk_append {α : Type} (b : List (Nat × α)) (h : Nat) : ∀ (a : List (Nat × α)), lk (a ++ b) h = match lk a h with | some x => some x | none => lk b h := by
  intro a
  induction a with
  | nil => rfl
  | cons p a ih =>
    obtain ⟨k, x⟩ := p
    rw [List.cons_append, lk_cons, lk_cons]
    cases Nat.beq k h with
    | true => rfl
    | false => exact ih
theorem lk_kills (h : Nat) : ∀ (sn : List Nat), lk (kills sn) h = if has sn h = true then some none else none := by
  intro sn
  induction sn with
  | nil => rfl
  | cons k sn ih =>
    rw [show kills (k :: sn) = (k, none) :: kills sn from rfl, lk_cons, show has (k :: sn) h = (Nat.beq k h || has sn h) from rfl]
    cases hb : Nat.beq k h with
    | true => simp
    | false => rw [cond_false, Bool.false_or]; exact ih
end Go.Proofs.Ytbpcbhmdjphodaa.am

namespace Go.Proofs.Ytbpcbhmdjphodaa.am
open Go
set_option linter.unusedSimpArgs false
def AE.out (ρ : List Nat) : AE → AE | .ret a => .ret (a.out ρ) | .pan a => .pan (a.out ρ)
def AE.lowH (k : Nat) : AE → Bool | .ret a => a.lowH k | .pan a => a.lowH k
def AE.scal : AE → Bool | .ret a => a.scal | .pan a => a.scal
/-- what stands for something -/
def AOk (a : AV) : Prop := ∃ g w v, Rep g w v a
def AE.ok : AE → Prop | .ret a => AOk a | .pan a => AOk a
abbrev EE := AE → List (Nat × Blk) → List (Nat × Option Blk) → Prop
def callUp (ρ sn : List Nat) (res : AE) (bout : List (Option Blk)) : List (Nat × Option Blk) := upOf ρ ρ bout ++ bif ρ.isEmpty && res.scal then [] else kills sn
/-- ro: the handles given to the callee, and it may be one for a block that the callee makes -/
structure CallOk (P : Program) (m : Mem) (nh : Nat) (f : Nat) (xs : List AV) (ρ ro sn : List Nat) (as : List AV) (bin : List Blk) (res : AE) (bout : List (Option Blk)) : Prop where
  ctr : Ctr P f as bin res bout
  nodup : ρ.Nodup
  len : ρ.length = bin.length
  ext : ro = ρ ∨ ro = ρ ++ [nh]
  olen : bout.length = ro.length
  bok : boutOk ro.length bout = true
  args : cvL m ρ [] (seenS ρ sn) xs as
  mem : cvM m (ofL bin) ρ [] (seenS ρ sn)
  there : ∀ h ∈ ρ ++ sn, ∃ b, m h = some b
  low : res.lowH ro.length = true
/-- the same, whatever the callee is -/
structure CallFit (m : Mem) (nh : Nat) (xs : List AV) (ρ ro sn : List Nat) (as : List AV) (bin : List Blk) (res : AE) (bout : List (Option Blk)) : Prop where
  nodup : ρ.Nodup
  len : ρ.length = bin.length
  ext : ro = ρ ∨ ro = ρ ++ [nh]
  olen : bout.length = ro.length
  bok : boutOk ro.length bout = true
  args : cvL m ρ [] (seenS ρ sn) xs as
  mem : cvM m (ofL bin) ρ [] (seenS ρ sn)
  there : ∀ h ∈ ρ ++ sn, ∃ b, m h = some b
  low : res.lowH ro.length = true
theorem CallOk.fit {P : Program} {m : Mem} {nh f : Nat} {xs : List AV} {ρ ro sn : List Nat} {as : List AV} {bin : List Blk} {res : AE} {bout : List (Option Blk)} (h : CallOk P m nh f xs ρ ro sn as bin res bout) : CallFit m nh xs ρ ro sn as bin res bout :=
  ⟨h.nodup, h.len, h.ext, h.olen, h.bok, h.args, h.mem, h.there, h.low⟩
def acall (P : Program) (m : Mem) (nh : Nat) (f : Nat) (xs : List AV) (K : EE) : Prop :=
  ∃ (ρ ro sn : List Nat) (as : List AV) (bin : List Blk) (res : AE) (bout : List (Option Blk)), CallOk P m nh f xs ρ ro sn as bin res bout ∧ K (res.out ro) (rdOf m (ρ ++ sn)) (callUp ro sn res bout)

section
variable {P : Program} {m m' : Mem} {ρ nl : List Nat} {S : Nat → Bool}
theorem rdOf_mem : ∀ {l : List Nat} {h : Nat} {b : Blk}, h ∈ l → m h = some b → (h, b) ∈ rdOf m l := by
  intro l
  induction l with
  | nil => intro h b hh; simp at hh
  | cons k r ih =>
    intro h b hh hb
    unfold rdOf
    simp only [List.mem_cons] at hh
    rcases hh with rfl | hh
    · rw [hb]; simp
    · split
      · exact List.mem_cons_of_mem _ (ih hh hb)
      · exact ih hh hb
theorem rdOf_ok : ∀ {l : List Nat}, ∀ p ∈ rdOf m l, m p.1 = some p.2 ∧ p.1 ∈ l := by
  intro l
  induction l with
  | nil => intro p hp; simp [rdOf] at hp
  | cons k r ih =>
    intro p hp
    unfold rdOf at hp
    split at hp
    · rename_i b e
      simp only [List.mem_cons] at hp
      rcases hp with rfl | hp
      · exact ⟨e, by simp⟩
      · exact ⟨(ih p hp).1, by simp [(ih p hp).2]⟩
    · exact ⟨(ih p hp).1, by simp [(ih p hp).2]⟩
theorem sees_congr (hm : ∀ h, S h = true → ∀ b, m h = some b → m' h = some b) {h len : Nat} {t : Tr} (hS : S h = true) (hs : sees m h len t) : sees m' h len t := by
  unfold sees at hs ⊢
  split at hs
  · rename_i e n B rows em
    rw [hm h hS _ em]; exact hs
  · exact hs.elim
mutual
theorem cv_congr (hm : ∀ h, S h = true → ∀ b, m h = some b → m' h = some b) : ∀ (a a' : AV), cv m ρ nl S a a' → cv m' ρ nl S a a'
  | .tr _, .tr _, h => by unfold cv at h ⊢; exact h
  | .sl _ _, .tr _, h => by unfold cv at h ⊢; exact ⟨h.1, sees_congr hm h.1 h.2⟩
  | .tr _, .sl _ _, h => by unfold cv at h ⊢; exact h
  | .sl _ _, .sl _ _, h => by unfold cv at h ⊢; exact h
  | .und, .und, _ => by unfold cv; trivial
  | .agg l, .agg l', h => by unfold cv at h ⊢; exact cvL_congr hm l l' h
  | .tup l, .tup l', h => by unfold cv at h ⊢; exact cvL_congr hm l l' h
  | .ptr _ _, .ptr _ _, h => by unfold cv at h ⊢; exact h
  | .vpt _ _ _ _, .vpt _ _ _ _, h => by unfold cv at h ⊢; exact h
  | .ept _, .ept _, h => by unfold cv at h ⊢; exact h
  | .fn _ l, .fn _ l', h => by unfold cv at h ⊢; exact ⟨h.1, cvL_congr hm l l' h.2⟩
  | .ifc _ a, .ifc _ a', h => by unfold cv at h ⊢; exact ⟨h.1, cv_congr hm a a' h.2⟩
  | .und, .tr _, h | .und, .agg _, h | .und, .tup _, h | .und, .ptr _ _, h | .und, .vpt _ _ _ _, h | .und, .sl _ _, h | .und, .ept _, h | .und, .fn _ _, h | .und, .ifc _ _, h | .und, .mp _, h => by unfold cv at h; exact h.elim
  | .tr _, .und, h | .tr _, .agg _, h | .tr _, .tup _, h | .tr _, .ptr _ _, h | .tr _, .vpt _ _ _ _, h | .tr _, .ept _, h | .tr _, .fn _ _, h | .tr _, .ifc _ _, h | .tr _, .mp _, h => by unfold cv at h; exact h.elim
  | .agg _, .und, h | .agg _, .tr _, h | .agg _, .tup _, h | .agg _, .ptr _ _, h | .agg _, .vpt _ _ _ _, h | .agg _, .sl _ _, h | .agg _, .ept _, h | .agg _, .fn _ _, h | .agg _, .ifc _ _, h | .agg _, .mp _, h => by unfold cv at h; exact h.elim
  | .tup _, .und, h | .tup _, .tr _, h | .tup _, .agg _, h | .tup _, .ptr _ _, h | .tup _, .vpt _ _ _ _, h | .tup _, .sl _ _, h | .tup _, .ept _, h | .tup _, .fn _ _, h | .tup _, .ifc _ _, h | .tup _, .mp _, h => by unfold cv at h; exact h.elim
  | .ptr _ _, .und, h | .ptr _ _, .tr _, h | .ptr _ _, .agg _, h | .ptr _ _, .tup _, h | .ptr _ _, .vpt _ _ _ _, h | .ptr _ _, .sl _ _, h | .ptr _ _, .ept _, h | .ptr _ _, .fn _ _, h | .ptr _ _, .ifc _ _, h | .ptr _ _, .mp _, h => by unfold cv at h; exact h.elim
  | .vpt _ _ _ _, .und, h | .vpt _ _ _ _, .tr _, h | .vpt _ _ _ _, .agg _, h | .vpt _ _ _ _, .tup _, h | .vpt _ _ _ _, .ptr _ _, h | .vpt _ _ _ _, .sl _ _, h | .vpt _ _ _ _, .ept _, h | .vpt _ _ _ _, .fn _ _, h | .vpt _ _ _ _, .ifc _ _, h | .vpt _ _ _ _, .mp _, h => by unfold cv at h; exact h.elim
  | .sl _ _, .und, h | .sl _ _, .agg _, h | .sl _ _, .tup _, h | .sl _ _, .ptr _ _, h | .sl _ _, .vpt _ _ _ _, h | .sl _ _, .ept _, h | .sl _ _, .fn _ _, h | .sl _ _, .ifc _ _, h | .sl _ _, .mp _, h => by unfold cv at h; exact h.elim
  | .ept _, .und, h | .ept _, .tr _, h | .ept _, .agg _, h | .ept _, .tup _, h | .ept _, .ptr _ _, h | .ept _, .vpt _ _ _ _, h | .ept _, .sl _ _, h | .ept _, .fn _ _, h | .ept _, .ifc _ _, h | .ept _, .mp _, h => by unfold cv at h; exact h.elim
  | .fn _ _, .und, h | .fn _ _, .tr _, h | .fn _ _, .agg _, h | .fn _ _, .tup _, h | .fn _ _, .ptr _ _, h | .fn _ _, .vpt _ _ _ _, h | .fn _ _, .sl _ _, h | .fn _ _, .ept _, h | .fn _ _, .ifc _ _, h | .fn _ _, .mp _, h => by unfold cv at h; exact h.elim
  | .ifc _ _, .und, h | .ifc _ _, .tr _, h | .ifc _ _, .agg _, h | .ifc _ _, .tup _, h | .ifc _ _, .ptr _ _, h | .ifc _ _, .vpt _ _ _ _, h | .ifc _ _, .sl _ _, h | .ifc _ _, .ept _, h | .ifc _ _, .fn _ _, h | .ifc _ _, .mp _, h => by unfold cv at h; exact h.elim
  | .mp _, .mp _, h => by unfold cv at h ⊢; exact h
  | .mp _, .und, h | .mp _, .tr _, h | .mp _, .agg _, h | .mp _, .tup _, h | .mp _, .ptr _ _, h | .mp _, .vpt _ _ _ _, h | .mp _, .sl _ _, h | .mp _, .ept _, h | .mp _, .fn _ _, h | .mp _, .ifc _ _, h => by unfold cv at h; exact h.elim
theorem cvL_congr (hm : ∀ h, S h = true → ∀ b, m h = some b → m' h = some b) : ∀ (l l' : List AV), cvL m ρ nl S l l' → cvL m' ρ nl S l l'
  | [], [], _ => by unfold cvL; trivial
  | a :: l, a' :: l', h => by unfold cvL at h ⊢; exact ⟨cv_congr hm a a' h.1, cvL_congr hm l l' h.2⟩
  | [], _ :: _, h => by unfold cvL at h; exact h.elim
  | _ :: _, [], h => by unfold cvL at h; exact h.elim
end
theorem cvB_congr (hm : ∀ h, S h = true → ∀ b, m h = some b → m' h = some b) : ∀ (b b' : Blk), cvB m ρ nl S b b' → cvB m' ρ nl S b b'
  | .cells _ _, .cells _ _, h => by unfold cvB at h ⊢; exact ⟨h.1, cvL_congr hm _ _ h.2⟩
  | .vec _ _ _ _, .vec _ _ _ _, h => by unfold cvB at h ⊢; exact h
  | .map _ _, .map _ _, h => by unfold cvB at h ⊢; exact h
  | .cells _ _, .vec _ _ _ _, h | .cells _ _, .map _ _, h => by unfold cvB at h; exact h.elim
  | .vec _ _ _ _, .cells _ _, h | .vec _ _ _ _, .map _ _, h => by unfold cvB at h; exact h.elim
  | .map _ _, .cells _ _, h | .map _ _, .vec _ _ _ _, h => by unfold cvB at h; exact h.elim

def calleeX (g : Gh) (ρ sn : List Nat) (b : Nat) : Prop := g.X b ∨ ∃ h l, g h = .live l ∧ l.b = some b ∧ h ∉ ρ ∧ has sn h = false
def back (g g' : Gh) (ro sn : List Nat) (kill : Bool) : Gh := ⟨fun h => match idx ro h with | some i => g' i | none => if kill && has sn h then (match g h with | .un => .un | _ => .dead) else g h, g.X, []⟩
theorem acall_core {xs as : List AV} {sn : List Nat} {bin : List Blk} {res : AE} {bout : List (Option Blk)} {ro : List Nat} {nh : Nat} (h : CallFit m nh xs ρ ro sn as bin res bout) {Run : (Ending → World → Prop) → Prop} (hmono : ∀ R R', Run R → (∀ e w, R e w → R' e w) → Run R') (g : Gh) (w : World) (m' : Mem) (vs : Array Value)
    (hrun : ∀ g : Gh, (∀ h, bin.length ≤ h → g h = .un) → MSt g w (ofL bin) → vs.size = as.length → (∀ (i : Nat) (v : Value) (a : AV), vs[i]? = some v → as[i]? = some a → Rep g w v a) → Run fun e w' => ∃ g', Grow g w g' w' ∧ MSt g' w' (ofLO bout) ∧ Under g' bout.length ∧ res.is g' w' e)
    (hm : MSt g w m') (hnh : g nh = .un) (hrd : ∀ p ∈ rdOf m (ρ ++ sn), m' p.1 = some p.2) (hsz : vs.size = xs.length) (hvs : ∀ (i : Nat) (v : Value) (a : AV), vs[i]? = some v → xs[i]? = some a → Rep g w v a) :
    Run fun e w' => ∃ gn, (res.out ro).is gn w' e ∧ MSt gn w' (updM m' (callUp ro sn res bout)) ∧ Grow g w gn w' ∧ ∀ k, k ≠ nh → g k = .un → gn k = .un := by
  have hin : ∀ k, k ∈ ρ ++ sn → ∀ b, m k = some b → m' k = some b := fun k hk b hb => hrd (k, b) (rdOf_mem hk hb)
  have hS : ∀ k, seenS ρ sn k = true → has sn k = true ∧ k ∉ ρ := fun k hk => by
    unfold seenS at hk
    simp only [Bool.and_eq_true, Bool.not_eq_true'] at hk
    refine ⟨hk.1, fun hmem => ?_⟩
    rw [has_iff.2 hmem] at hk; cases hk.2
  have hSm : ∀ k, seenS ρ sn k = true → ∀ b, m k = some b → m' k = some b := fun k hk => hin k (by simp [has_iff.1 (hS k hk).1])
  -- the callee's world
  have hsub : SubOk g w ρ (seenS ρ sn) (calleeX g ρ sn) := by
    refine ⟨fun b hb hX => ?_, fun k l b h1 h2 h3 hX => ?_, fun k hk => (hS k hk).2⟩
    · rcases hX with hX | ⟨k, l, e1, e2, _, _⟩
      · exact hb.2.1 hX
      · exact hb.2.2 k l e1 e2
    · rcases hX with hX | ⟨k', l', e1, e2, e3, e4⟩
      · exact hm.xl k l b h2 h3 hX
      · have := hm.inj k k' l l' b h2 e1 h3 e2
        subst this
        rw [(hS k h1).1] at e4; cases e4
  have hmc : MSt (gsub g ρ [] (calleeX g ρ sn)) w (ofL bin) := by
    refine cvM_mst hsub hm h.nodup (fun b hX => ?_) (fun i k l b e1 e2 e3 hX => ?_) ?_
    · rcases hX with hX | ⟨k, l, e1, e2, _, _⟩
      · exact hm.xlt b hX
      · exact hm.lt k l b e1 e2
    · rcases hX with hX | ⟨k', l', e4, e5, e6, _⟩
      · exact hm.xl k l b e2 e3 hX
      · have := hm.inj k k' l l' b e2 e4 e3 e5
        subst this
        exact e6 (List.mem_of_getElem? e1)
    · intro i b' hb'
      rcases h.mem i b' hb' with ⟨k, b, q1, q2, q3⟩ | ⟨_, q2, _⟩
      · exact .inl ⟨k, b, q1, hin k (by simp [List.mem_of_getElem? q1]) b q2, cvB_congr hSm _ _ q3⟩
      · simp [has] at q2
  have hargs := cvL_get (cvL_congr hSm _ _ h.args)
  refine hmono _ _ (hrun (gsub g ρ [] (calleeX g ρ sn)) (fun k hk => ?_) hmc (hsz.trans hargs.1) (fun i v a e1 e2 => ?_)) ?_
  · have : ρ[k]? = none := List.getElem?_eq_none (by rw [h.len]; exact hk)
    simp [gsub, this, has]
  · obtain ⟨b, q1, q2⟩ := hargs.2 i a e2
    exact cv_rep hsub hm (hvs i v b e1 q1) q2
  rintro e w' ⟨g', hG, hM, hU, hR⟩
  -- back to the caller
  generalize hkill : (!(ro.isEmpty && res.scal)) = kill
  have hlen : ro.length = bout.length := h.olen.symm
  have hlive : ∀ (i k : Nat), ρ[i]? = some k → ∃ l, g k = .live l := fun i k hi => by
    obtain ⟨b, hb⟩ := h.there k (by simp [List.mem_of_getElem? hi])
    obtain ⟨l, e1, _⟩ := hm.blk k b (hin k (by simp [List.mem_of_getElem? hi]) b hb)
    exact ⟨l, e1⟩
  have hnρ : nh ∉ ρ := fun hmem => by
    obtain ⟨i, hi⟩ := List.mem_iff_getElem?.1 hmem
    obtain ⟨l, hl⟩ := hlive i nh hi
    rw [hnh] at hl; cases hl
  have hnod : ro.Nodup := by
    rcases h.ext with e | e <;> rw [e]
    · exact h.nodup
    · exact List.nodup_append.2 ⟨h.nodup, by simp, fun a ha b hb => by simp at hb; subst hb; exact fun e => hnρ (e ▸ ha)⟩
  have hin2 : ∀ k, k ∈ ρ → k ∈ ro := fun k hk => by
    rcases h.ext with e | e <;> rw [e]
    · exact hk
    · simp [hk]
  have hro : ∀ i k : Nat, ro[i]? = some k → ρ[i]? = some k ∨ (ρ[i]? = none ∧ k = nh) := fun i k hi => by
    rcases h.ext with e | e <;> rw [e] at hi
    · exact .inl hi
    · by_cases hlt : i < ρ.length
      · rw [List.getElem?_append_left hlt] at hi; exact .inl hi
      · rw [List.getElem?_append_right (by omega)] at hi
        refine .inr ⟨List.getElem?_eq_none (by omega), ?_⟩
        have hlt2 := (List.getElem?_eq_some_iff.1 hi).1
        simp at hlt2
        rw [hlt2] at hi
        simpa using hi.symm
  have hgi : ∀ (i k : Nat), ro[i]? = some k → back g g' ro sn kill k = g' i := fun i k hi => by
    show (match idx ro k with | some i => g' i | none => _) = _
    rw [idx_of hnod hi]
  have hgn : ∀ k, k ∉ ro → back g g' ro sn kill k = if kill && has sn k then (match g k with | .un => .un | _ => .dead) else g k := fun k hk => by
    show (match idx ro k with | some i => g' i | none => _) = _
    cases e : idx ro k with
    | none => rfl
    | some i => exact absurd (List.mem_of_getElem? (idx_some e)) hk
  -- live here: one of the callee's, or one of the caller's others
  have hcase : ∀ k l, back g g' ro sn kill k = .live l → (∃ i, ro[i]? = some k ∧ g' i = .live l) ∨ (k ∉ ro ∧ g k = .live l ∧ (kill = true → has sn k = false)) := fun k l e1 => by
    by_cases hk : k ∈ ro
    · obtain ⟨i, hi⟩ := List.mem_iff_getElem?.1 hk
      exact .inl ⟨i, hi, (hgi i k hi).symm.trans e1⟩
    · rw [hgn k hk] at e1
      split at e1
      · split at e1 <;> cases e1
      · rename_i hc
        refine .inr ⟨hk, e1, fun hkl => ?_⟩
        rw [hkl] at hc
        cases hh : has sn k with
        | false => rfl
        | true => rw [hh] at hc; exact absurd rfl hc
  have hok : kill = true → ∀ b, okB g' w' b → okB (back g g' ro sn kill) w' b := fun hkl b hb => by
    refine ⟨hb.1, fun hX => hb.2.1 (by rw [hG.X]; exact .inl hX), fun k l e1 e2 => ?_⟩
    rcases hcase k l e1 with ⟨i, _, q2⟩ | ⟨q1, q2, q3⟩
    · exact hb.2.2 i l q2 e2
    · exact hb.2.1 (by rw [hG.X]; exact .inr ⟨k, l, q2, e2, fun hk => q1 (hin2 k hk), q3 hkl⟩)
  -- blocks that are not the callee's
  have hsame : ∀ b, b < w.heap.size → (∀ i l, gsub g ρ [] (calleeX g ρ sn) i = .live l → l.b ≠ some b) → w'.heap[b]? = w.heap[b]? := fun b hb hn => by
    by_cases hX : calleeX g ρ sn b
    · exact hG.xb b hX
    · exact hG.block b ⟨hb, hX, hn⟩
  have hother : ∀ k l b, k ∉ ρ → g k = .live l → l.b = some b → w'.heap[b]? = w.heap[b]? := fun k l b hk e1 e2 => hsame b (hm.lt k l b e1 e2) fun i l' e3 e4 => by
    unfold gsub at e3
    simp only at e3
    split at e3
    · rename_i k' hk'
      have := hm.inj k k' l l' b e1 e3 e2 e4
      exact hk (this ▸ List.mem_of_getElem? hk')
    · simp [has] at e3
  have hgrow : Grow g w (back g g' ro sn kill) w' := by
    refine ⟨hG.os, hG.tape, hG.output, hG.size, fun b hb => hsame b hb.1 fun i l e1 e2 => ?_, fun b hb => hG.xb b (.inl hb), rfl, fun k hk => ?_, fun k l e1 => ?_, fun k l b e1 e2 => ?_⟩
    · unfold gsub at e1
      simp only at e1
      split at e1
      · exact hb.2.2 _ l e1 e2
      · simp [has] at e1
    · by_cases hkρ : k ∈ ro
      · obtain ⟨i, hi⟩ := List.mem_iff_getElem?.1 hkρ
        rw [hgi i k hi]
        rcases hro i k hi with hi' | ⟨_, hkn⟩
        · exact hG.un i (by rw [gsub_some hi']; exact hk)
        · rw [hkn] at hk; exact absurd hnh hk
      · rw [hgn k hkρ]
        split
        · split
          · rename_i e; exact absurd e hk
          · simp
        · exact hk
    · rcases hcase k l e1 with ⟨i, q1, q2⟩ | ⟨q1, q2, _⟩
      · rcases hro i k q1 with q1 | ⟨_, hkn⟩
        · rcases hG.live i l q2 with q3 | q3
          · rw [gsub_some q1] at q3; exact .inl q3
          · rw [gsub_some q1] at q3; exact .inr q3
        · rw [hkn]; exact .inr hnh
      · exact .inl q2
    · rcases hcase k l e1 with ⟨i, q1, q2⟩ | ⟨q1, q2, _⟩
      · rcases hG.new i l b q2 e2 with ⟨i2, l2, q3, q4⟩ | q3
        · unfold gsub at q3
          simp only at q3
          split at q3
          · exact .inl ⟨_, l2, q3, q4⟩
          · simp [has] at q3
        · exact .inr q3
      · exact .inl ⟨k, l, q2, e2⟩
  refine ⟨back g g' ro sn kill, ?_, ?_, hgrow, fun k hkn hk => ?_⟩
  · -- the result
    cases hk : kill with
    | true =>
      have hok' := hok hk
      rw [hk] at hok' hgi
      cases res with
      | ret a => cases e with
        | returned v => exact Rep.out (ρ := ro) (k := ro.length) rfl hok' (fun i k hi => hgi i k hi) hR h.low
        | _ => exact hR.elim
      | pan a => cases e with
        | panicked ch => obtain ⟨v, q1, q2⟩ := hR; exact ⟨v, q1, Rep.out (ρ := ro) (k := ro.length) rfl hok' (fun i k hi => hgi i k hi) q2 h.low⟩
        | _ => exact hR.elim
    | false =>
      rw [hk] at hkill
      have hsc : res.scal = true := by
        cases hs : res.scal with
        | true => rfl
        | false => rw [hs] at hkill; simp at hkill
      cases res with
      | ret a => cases e with
        | returned v => exact hR.scal hsc
        | _ => exact hR.elim
      | pan a => cases e with
        | panicked ch => obtain ⟨v, q1, q2⟩ := hR; exact ⟨v, q1, q2.scal hsc⟩
        | _ => exact hR.elim
  · -- the memory
    have hkρ : ∀ k, k ∈ ro → kill = true := fun k hk => by
      cases hq : kill with
      | true => rfl
      | false =>
        rw [hq] at hkill
        have : ro.isEmpty = true := by
          cases hs : ro.isEmpty with
          | true => rfl
          | false => rw [hs] at hkill; simp at hkill
        rw [List.isEmpty_iff.1 this] at hk; simp at hk
    have hup : ∀ k, k ∉ ro → updM m' (callUp ro sn res bout) k = if kill && has sn k then none else m' k := fun k hk => by
      have e1 : idx ro k = none := by
        cases e : idx ro k with
        | none => rfl
        | some i => exact absurd (List.mem_of_getElem? (idx_some e)) hk
      unfold updM callUp
      rw [lk_append, up_none e1]
      rw [← hkill]
      cases hs : (ro.isEmpty && res.scal) with
      | true => simp [lk]
      | false =>
        simp only [cond_false, Bool.not_false, Bool.true_and]
        rw [lk_kills]
        cases has sn k <;> simp
    have hup2 : ∀ (i k : Nat), ro[i]? = some k → updM m' (callUp ro sn res bout) k = ((bout[i]?).join.map (Blk.out ro)) := fun i k hi => by
      unfold updM callUp
      rw [lk_append, up_some hlen (idx_of hnod hi)]
    have hbo : ∀ (i : Nat) (b : Blk), (bout[i]?).join = some b → b.lowH ro.length = true := by
      intro i b hb
      have : ∀ (l : List (Option Blk)), boutOk ro.length l = true → ∀ i : Nat, (l[i]?).join = some b → b.lowH ro.length = true := by
        intro l
        induction l with
        | nil => intro _ i hi; simp at hi
        | cons x l ih =>
          intro hl i hi
          cases i with
          | zero =>
            simp at hi; subst hi
            unfold boutOk at hl
            simp only [Bool.and_eq_true] at hl
            exact hl.1
          | succ i =>
            refine ih ?_ i (by simpa using hi)
            cases x with
            | none => unfold boutOk at hl; exact hl
            | some y => unfold boutOk at hl; simp only [Bool.and_eq_true] at hl; exact hl.2
      exact this bout h.bok i hb
    refine ⟨fun k b hb => ?_, fun k k' l l' b e1 e2 e3 e4 => ?_, fun k l b e1 e2 => ?_, fun b hb => Nat.lt_of_lt_of_le (hm.xlt b hb) hG.size, fun k l b e1 e2 hX => ?_⟩
    · by_cases hk : k ∈ ro
      · obtain ⟨i, hi⟩ := List.mem_iff_getElem?.1 hk
        rw [hup2 i k hi, Option.map_eq_some_iff] at hb
        obtain ⟨b0, q1, rfl⟩ := hb
        obtain ⟨l, q2, q3⟩ := hM.blk i b0 q1
        exact ⟨l, (hgi i k hi).trans q2, q3.out (ρ := ro) (k := ro.length) rfl (hok (hkρ k hk)) (fun i k hi => hgi i k hi) (hbo i b0 q1)⟩
      · rw [hup k hk] at hb
        split at hb
        · cases hb
        · rename_i hc
          obtain ⟨l, q1, q2⟩ := hm.blk k b hb
          refine ⟨l, ?_, q2.grow hgrow fun j hj => hother k l j (fun hm' => hk (hin2 k hm')) q1 hj⟩
          rw [hgn k hk, if_neg hc]; exact q1
    · rcases hcase k l e1 with ⟨i, q1, q2⟩ | ⟨q1, q2, _⟩
      · rcases hcase k' l' e2 with ⟨i', q1', q2'⟩ | ⟨q1', q2', _⟩
        · have := hM.inj i i' l l' b q2 q2' e3 e4
          subst this
          rw [q1] at q1'; cases q1'; rfl
        · -- a block of the callee's and one of another
          exfalso
          have hlt := hm.lt k' l' b q2' e4
          rcases hG.new i l b q2 e3 with ⟨i2, l2, q3, q4⟩ | q3
          · unfold gsub at q3
            simp only at q3
            split at q3
            · rename_i k2 hk2
              have := hm.inj k' k2 l' l2 b q2' q3 e4 q4
              exact q1' (hin2 _ (this ▸ List.mem_of_getElem? hk2))
            · simp [has] at q3
          · omega
      · rcases hcase k' l' e2 with ⟨i', q1', q2'⟩ | ⟨q1', q2', _⟩
        · exfalso
          have hlt := hm.lt k l b q2 e3
          rcases hG.new i' l' b q2' e4 with ⟨i2, l2, q3, q4⟩ | q3
          · unfold gsub at q3
            simp only at q3
            split at q3
            · rename_i k2 hk2
              have := hm.inj k k2 l l2 b q2 q3 e3 q4
              exact q1 (hin2 _ (this ▸ List.mem_of_getElem? hk2))
            · simp [has] at q3
          · omega
        · exact hm.inj k k' l l' b q2 q2' e3 e4
    · rcases hcase k l e1 with ⟨i, q1, q2⟩ | ⟨q1, q2, _⟩
      · exact hM.lt i l b q2 e2
      · exact Nat.lt_of_lt_of_le (hm.lt k l b q2 e2) hG.size
    · rcases hcase k l e1 with ⟨i, q1, q2⟩ | ⟨q1, q2, _⟩
      · exact hM.xl i l b q2 e2 (by rw [hG.X]; exact .inl hX)
      · exact hm.xl k l b q2 e2 hX
  · have hk' : k ∉ ro := fun hmem => by
      obtain ⟨i, hi⟩ := List.mem_iff_getElem?.1 hmem
      rcases hro i k hi with hi | ⟨_, e⟩
      · obtain ⟨l, hl⟩ := hlive i k hi
        rw [hk] at hl; cases hl
      · exact hkn e
    rw [hgn k hk', hk]
    split <;> rfl
theorem acall_run {f : Nat} {xs as : List AV} {sn : List Nat} {bin : List Blk} {res : AE} {bout : List (Option Blk)} {ro : List Nat} {nh : Nat} (h : CallOk P m nh f xs ρ ro sn as bin res bout) (g : Gh) (w : World) (m' : Mem) (vs : Array Value)
    (hm : MSt g w m') (hnh : g nh = .un) (hrd : ∀ p ∈ rdOf m (ρ ++ sn), m' p.1 = some p.2) (hsz : vs.size = xs.length) (hvs : ∀ (i : Nat) (v : Value) (a : AV), vs[i]? = some v → xs[i]? = some a → Rep g w v a) :
    Calls P f vs w fun e w' => ∃ gn, (res.out ro).is gn w' e ∧ MSt gn w' (updM m' (callUp ro sn res bout)) ∧ Grow g w gn w' ∧ ∀ k, k ≠ nh → g k = .un → gn k = .un :=
  acall_core h.fit (Run := fun R => Calls P f vs w R) (fun _ _ h1 h2 => h1.mono h2) g w m' vs (fun g hun hmc hl hv => h.ctr.run g w vs hun hmc hl hv) hm hnh hrd hsz hvs
end
end Go.Proofs.Ytbpcbhmdjphodaa.am
