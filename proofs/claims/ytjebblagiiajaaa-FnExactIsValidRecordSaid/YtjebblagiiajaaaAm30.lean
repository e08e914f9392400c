/- The abstract machine, part 30: more rules for walks: elements of this call's own arrays, what is lent, results of several kinds. -/
import Derived.Test.YtjebblagiiajaaaAm27
namespace Go.Am
open Go

section
variable {P : Program} {T : TypeId → Option TI} {t : Nat → AV} {m : Nat → Option O} {ep n : Nat} {pm : List Nat}

/-- What is read of a row. -/
def rowPart (ti : TI) (r : List D) (off : Nat) (K : Eff → Prop) : Prop :=
  match ti.agg with
  | true => off + ti.size ≤ r.length ∧ K ⟨.imm (.agg ((r.drop off).take ti.size)), []⟩
  | false => match r[off]? with | some d => K ⟨.imm d, []⟩ | none => False

theorem go_loadEl {tt : TypeId} {K : Eff → Prop} {id i off : Nat} {ty : TypeId} {sz : Nat} {rows : List (List D)} {ti : TI} {x : AV} {r : List D} (hx : x = .eptr id i off) (hm : m id = some (.arr ty sz rows)) (hT : T tt = some ti)
    (hr : rows[i]? = some r) (h : rowPart ti r off K) : opLoad T m tt x K := by
  subst hx
  unfold opLoad
  simp only [hT, hm, hr]
  exact h

theorem go_storeEl {tt : TypeId} {K : Eff → Prop} {id i off : Nat} {ty : TypeId} {sz : Nat} {rows rows' : List (List D)} {ti : TI} {x v : AV} {ds r : List D} (hx : x = .eptr id i off) (hm : m id = some (.arr ty sz rows)) (hT : T tt = some ti)
    (hd : dcells m v = some (ds, [])) (hr : rows[i]? = some r) (hl : Nat.beq ds.length ti.size = true) (hl' : Nat.ble (off + ti.size) r.length = true) (hrows : rows.set i (setAt r off ds) = rows') (h : K ⟨.undef, [(id, .arr ty sz rows')]⟩) : opStore T m tt x v K := by
  subst hx hrows
  unfold opStore
  simp only [hT, hm, hd, hr]
  exact ⟨Nat.eq_of_beq_eq_true hl, Nat.le_of_ble_eq_true hl', by simp, h⟩

theorem set_at {α : Type} {rows : List α} {i : Nat} {r : α} (h : i < rows.length) : (rows.set i r)[i]? = some r := by simp [h]

/-- append of a plain list to an array of this call's own. -/
theorem go_appImm {o : Oper} {d : Nat} {tt e ty : TypeId} {a1 b1 : Nat} {z1 : List D} {te : TI} {x y : AV} {id len sz : Nat} {rows rows2 : List (List D)} {K : Eff → Prop} (ho : o.dst = some d) (hT : T tt = some ⟨.slice e, a1, b1, z1⟩) (hx : x = .own id 0 len) (hE : T e = some te)
    (hm : m id = some (.arr ty sz rows)) (hte : ty = e) (hsz : sz = te.size) (hf : m (nid ep d) = none) (hy : y = .imm (.list rows2))
    (hone : ∀ r ∈ rows2, r.length = te.size ∧ r.all D.one = true) (hb : Nat.ble te.bytes 65536 = true) (hlen : len = rows.length) (hbound : rows.length + rows2.length ≤ 1073741824)
    (hk : K ⟨.own (nid ep d) 0 (len + rows2.length), [(id, .gone), (nid ep d, .arr e te.size (rows ++ rows2))]⟩) : opAppend T m ep o tt x y K := by
  subst hx hy hte hsz hlen
  unfold opAppend
  simp only [ho, hT, hE, hm]
  have hb' : te.bytes ≤ 65536 := Nat.le_of_ble_eq_true hb
  have hmul : (rows.length + rows2.length) * te.bytes ≤ 1073741824 * 65536 := Nat.mul_le_mul hbound hb'
  refine ⟨trivial, trivial, by omega, hf, hone, by omega, by omega, ?_⟩
  rw [List.drop_zero]
  exact hk

theorem argsIn_lent {md : List Nat} {id len : Nat} {r : List AV} {ty : TypeId} {sz : Nat} {rows : List (List D)} {is : List In} {vs fs : List Nat} {gs : List (Option Nat)} (hm : m id = some (.arr ty sz rows)) (hl : len = rows.length)
    (hr : argsIn m md r = some (is, vs, fs, gs)) : argsIn m (2 :: md) (.own id 0 len :: r) = some (.arr ty sz rows :: is, vs, fs, some id :: gs) := by
  have h1 : argIn m 2 (.own id 0 len) = some (.arr ty sz rows, [], [], some id) := by
    show (match m id with | some (.arr ty sz rows) => if len = rows.length then some (In.arr ty sz rows, [], [], some id) else none | _ => none) = _
    rw [hm]
    simp [hl]
  simp only [argsIn, List.headD_cons, List.tail_cons, h1, hr, List.nil_append]

/-- A result, whatever it is. -/
theorem ret_all {fn : Func} {ins : List In} {out : Out} {avs : List AV} {σ : S} (hav : fn.results.toList.map (retAV T σ) = avs) (h1 : RetAll σ out.sep avs out.res) (h2 : (ownIds avs).Nodup) (h3 : σ.pm.Nodup)
    (h4 : MutsOk σ out (mutIdx ins) σ.pm) : retQ T fn ins out .ret σ := by
  subst hav
  exact ⟨h1, h2, h3, h4⟩

theorem ret1_arr {σ : S} {sep : Bool} {id off len : Nat} {ty sz : Nat} {rows rows' : List (List D)} (hm : σ.m id = some (.arr ty sz rows')) (hd : (rows'.drop off).take len = rows) (hg : ∀ x ∈ rows, x.all D.gr = true) (hp : id ∉ σ.pm) :
    Ret1 σ sep (.own id off len) (.arr ty sz rows) := by
  subst hd
  simp only [Ret1, hm]
  exact ⟨trivial, trivial, trivial, fun _ => hg, hp⟩

theorem ret1_own' {σ : S} {sep : Bool} {id off len : Nat} {ty sz : Nat} {rows rows' : List (List D)} (hm : σ.m id = some (.arr ty sz rows')) (hd : (rows'.drop off).take len = rows) (hg : ∀ x ∈ rows, x.all D.gr = true) (hp : id ∉ σ.pm) :
    Ret1 σ sep (.own id off len) (.imm (.list rows)) := by
  subst hd
  simp only [Ret1, hm]
  exact ⟨trivial, fun _ => hg, hp⟩

theorem ret1_imm {σ : S} {sep : Bool} {d d' : D} (h : d' = d) (hg : d.gr' = true) : Ret1 σ sep (.imm d') (.imm d) := ⟨h, fun _ => hg⟩

/-- A result in an array of its own, and data. -/
theorem ret_arr2 {fn : Func} {ins : List In} {r1 r2 : ResultVar} {id off len ty sz : Nat} {rows rows' : List (List D)} {d d' : D} {σ : S} (hr : fn.results.toList = [r1, r2]) (hm : mutIdx ins = []) (hp : σ.pm = []) (hv : retAV T σ r1 = .own id off len)
    (hmm : σ.m id = some (.arr ty sz rows')) (hd : (rows'.drop off).take len = rows) (hg : ∀ x ∈ rows, x.all D.gr = true) (hv2 : retAV T σ r2 = .imm d') (hd2 : d' = d) (hg2 : d.gr' = true) :
    retQ T fn ins { res := [.arr ty sz rows, .imm d] } .ret σ := by
  refine ret_all (avs := [.own id off len, .imm d']) (by rw [hr]; simp only [List.map_cons, List.map_nil, hv, hv2]) ⟨ret1_arr hmm hd hg (by rw [hp]; simp), ret1_imm hd2 hg2, trivial⟩ (by simp [ownIds]) (by rw [hp]; exact List.nodup_nil) (by rw [hm, hp]; trivial)

theorem mutOk_arr0 {ty sz : Nat} {rows rows' : List (List D)} {ins : List In} {res : List R0} (h : ins.all (fun x => !x.isMut) = true) (hl : rows.length ≤ rows'.length) :
    MutOk (.arr ty sz rows :: ins) { res := res, muts := [.arr ty sz rows'] } := by
  intro i o hi
  cases i with
  | zero =>
    injection hi with hi
    subst hi
    exact ⟨.inr ⟨ty, rows', rfl, hl⟩, .inl ⟨ty, sz, rows', rfl⟩⟩
  | succ i =>
    have h := List.all_eq_true.1 h
    unfold inM at hi
    split at hi
    · rename_i hx; have := h _ (List.mem_of_getElem? (by simpa using hx)); cases this
    · rename_i hx; have := h _ (List.mem_of_getElem? (by simpa using hx)); cases this
    · cases hi

/-- The one lent array comes back, with data. -/
theorem ret_mut0 {fn : Func} {ty sz : Nat} {rows rows' : List (List D)} {ins : List In} {id : Nat} {rv : ResultVar} {d d' : D} {σ : S} (hr : fn.results.toList = [rv]) (hmi : mutIdx (.arr ty sz rows :: ins) = [0]) (hp : σ.pm = [id])
    (hv : retAV T σ rv = .imm d') (hd : d' = d) (hg : d.gr' = true) (hm : σ.m id = some (.arr ty sz rows')) (hgr : ∀ x ∈ rows', x.all D.gr = true) :
    retQ T fn (.arr ty sz rows :: ins) { res := [.imm d], muts := [.arr ty sz rows'] } .ret σ := by
  refine ret_all (avs := [.imm d']) (by rw [hr]; simp only [List.map_cons, List.map_nil, hv]) ⟨ret1_imm hd hg, trivial⟩ (by simp [ownIds]) (by rw [hp]; simp) ?_
  rw [hmi, hp]
  refine ⟨hm, fun _ => ?_, trivial⟩
  show (rows'.all fun r => r.all D.gr) = true
  exact List.all_eq_true.2 hgr

theorem str_at {s : ByteArray} {i : Nat} {b : UInt8} (h : s.data.toList[i]? = some b) : s[i]? = some b := by
  obtain ⟨hi, hb⟩ := List.getElem?_eq_some_iff.1 h
  have hi' : i < s.size := by rw [Array.length_toList] at hi; exact hi
  rw [getElem?_pos s i hi']
  congr 1

/-- A byte of a string. -/
theorem go_idxStr {tt : TypeId} {K : Eff → Prop} {kd : IntKind} {i : Int} {s : ByteArray} {b : UInt8} {a1 b1 : Nat} {z1 : List D} {x y : AV} (hx : x = .imm (.str s)) (hy : y = .imm (.int kd i)) (hT : T tt = some ⟨.str, a1, b1, z1⟩)
    (h0 : 0 ≤ i) (hb : s.data.toList[i.toNat]? = some b) (h : K ⟨.imm (.int .u8 (b.toNat : Int)), []⟩) : opIndex T tt x y K := by
  subst hx hy
  unfold opIndex
  simp only [hT]
  refine ⟨h0, ?_⟩
  rw [str_at hb]
  exact h

/-- opLoad, which may be opened. -/
def opLoadB (T : TypeId → Option TI) (m : Nat → Option O) (t : TypeId) (x : AV) (K : Eff → Prop) : Prop :=
  match T t with
  | none => False
  | some ti =>
    match x with
    | .imm (.ptr ds) =>
      match ti.agg with
      | true => ti.size ≤ ds.length ∧ K ⟨.imm (.agg (ds.take ti.size)), []⟩
      | false => match ds with | d :: _ => K ⟨.imm d, []⟩ | [] => False
    | .box id off =>
      match m id with
      | some (.box _ cells) =>
        match ti.agg with
        | true => off + ti.size ≤ cells.length ∧ match imms ((cells.drop off).take ti.size) with | some ds => K ⟨.imm (.agg ds), []⟩ | none => False
        | false => match cells[off]? with | some (.tup _) => False | some av => K ⟨av, []⟩ | none => False
      | _ => False
    | _ => False

theorem go_loadB {tt : TypeId} {x : AV} {K : Eff → Prop} (h : opLoadB T m tt x K) : opLoad T m tt x K := by
  unfold opLoad
  unfold opLoadB at h
  cases hT : T tt with
  | none => rw [hT] at h; exact h.elim
  | some ti =>
    rw [hT] at h
    simp only at h ⊢
    split at h <;> first | exact h | (exfalso; exact h)

/-- A list that turns into another, element by element. -/
def upto {α : Type} (ys xs : List α) (i : Nat) : List α := ys.take i ++ xs.drop i

theorem upto_0 {α : Type} (ys xs : List α) : upto ys xs 0 = xs := by simp [upto]
theorem upto_end {α : Type} {ys xs : List α} (h : ys.length = xs.length) {i : Nat} (hi : xs.length ≤ i) : upto ys xs i = ys := by
  unfold upto
  rw [List.take_of_length_le (by omega), List.drop_eq_nil_of_le hi, List.append_nil]
theorem upto_len {α : Type} {ys xs : List α} (h : ys.length = xs.length) (i : Nat) : (upto ys xs i).length = xs.length := by simp [upto]; omega
theorem upto_at {α : Type} {ys xs : List α} (h : ys.length = xs.length) {i : Nat} {x : α} (hx : xs[i]? = some x) : (upto ys xs i)[i]? = some x := by
  have hi := (List.getElem?_eq_some_iff.1 hx).1
  unfold upto
  rw [List.getElem?_append_right (by simp; omega), List.length_take, show i - min i ys.length = 0 from by omega, List.getElem?_drop]
  exact hx
theorem upto_set {α : Type} {ys xs : List α} (h : ys.length = xs.length) {i : Nat} {x y : α} (hx : xs[i]? = some x) (hy : ys[i]? = some y) : (upto ys xs i).set i y = upto ys xs (i + 1) := by
  have hi := (List.getElem?_eq_some_iff.1 hx).1
  unfold upto
  have hl : (ys.take i).length = i := by simp; omega
  rw [List.set_append_right _ _ (by omega), hl, Nat.sub_self, List.take_add_one, hy]
  have hd : xs.drop i = x :: xs.drop (i + 1) := by
    rw [List.drop_eq_getElem_cons hi]
    have := (List.getElem?_eq_some_iff.1 hx).2
    rw [this]
  rw [hd, List.set_cons_zero]
  simp

/-- A row of one number. -/
def intRow (x : Int) : List D := [.int .i64 x]
theorem int_gr (xs : List Int) : ∀ r ∈ xs.map intRow, r.all D.gr = true := by
  intro r hr
  obtain ⟨x, _, rfl⟩ := List.mem_map.1 hr
  rfl
theorem int_one (xs : List Int) : (xs.map intRow).all (fun r => r.all D.one) = true := by
  simp only [List.all_map, List.all_eq_true]
  intro v _
  rfl
theorem int_view (xs : List Int) : ((xs.map intRow).drop 0).take (xs.map intRow).length = xs.map intRow := by rw [List.drop_zero, List.take_length]

theorem str_self (s : ByteArray) : (s == s) = true := by rw [beq_toListBytes]; simp

theorem zip_self {α : Type} {f : α → α → Bool} (hf : ∀ x, f x x = true) : ∀ (xs : List α), ((xs.zip xs).all fun x => f x.1 x.2) = true
  | [] => rfl
  | x :: xs => by simp only [List.zip_cons_cons, List.all_cons, hf, zip_self hf xs, Bool.and_self]

/-- Numbers one after the other, as the machine counts them. -/
def nx (k : Int) : Int := IntKind.i64.wrap (k + 1)
def kAt (k : Int) : Nat → Int
  | 0 => k
  | j + 1 => nx (kAt k j)
theorem kAt_eq {k : Int} (h0 : 0 ≤ k) : ∀ j : Nat, k + j ≤ 9223372036854775807 → kAt k j = k + j
  | 0, _ => by simp [kAt]
  | j + 1, h => by
    have ih := kAt_eq h0 j (by omega)
    have hw : IntKind.i64.wrap (k + (j : Int) + 1) = k + (j : Int) + 1 := by simp only [IntKind.wrap, IntKind.bits, IntKind.signed]; simp; omega
    rw [kAt, ih, nx, hw]
    push_cast
    omega

end
end Go.Am
