/- append, looked at: what is appended, what comes of it. -/
import Derived.Test.YtnjjkobijjdnbaaEv11d
set_option linter.unusedVariables false
set_option linter.unusedSimpArgs false
namespace Go.Proofs.Ytnjjkobijjdnbaa
open Go

section
variable {P : Program} {Γ : Nat → Option V} {G : Gh} {ob : Ob} {nm : Nm} {w : World} {σ : St}
mutual
theorem Ty.cells_one : ∀ (t : Ty) (x : t.den), ∀ v ∈ t.cells x, v.one = true
  | .bool, x, v, h => by simp [Ty.cells] at h; subst h; rfl
  | .int k, x, v, h => by simp [Ty.cells] at h; subst h; rfl
  | .str, x, v, h => by simp [Ty.cells] at h; subst h; rfl
  | .agg fs, x, v, h => Ty.cellss_one fs x v h
  | .slice e, x, v, h => by simp [Ty.cells] at h; subst h; rfl
theorem Ty.cellss_one : ∀ (ts : List Ty) (x : Ty.dens ts), ∀ v ∈ Ty.cellss ts x, v.one = true
  | [], x, v, h => by cases h
  | t :: ts, x, v, h => by
    simp only [Ty.cellss, List.mem_append] at h
    rcases h with h | h
    · exact Ty.cells_one t x.1 v h
    · exact Ty.cellss_one ts x.2 v h
end
theorem one_of_rels {l : List V} {cvs : List Value} (h : Rels G l cvs) (h1 : ∀ v ∈ l, v.one = true) : ∀ u ∈ cvs, u.oneCell' = true := by
  intro u hu
  obtain ⟨j, hj⟩ := List.getElem?_of_mem hu
  have hl : j < l.length := by rw [← h.1]; exact append_room.get_lt'' hj
  have hv : l[j]? = some l[j] := List.getElem?_eq_getElem hl
  exact (h.2 j _ u hv hj).oneCell (h1 _ (List.mem_of_getElem? hv))
theorem Ys.of_lst {size : Nat} {tx e' : TypeId} (hk : P.underlying tx = some (.slice e')) {t : Tag} {ys : List V} {cy : Value} (hw : WRel Γ G ob nm w) (hr : VRel G (.lst t ys) cy) (hel : ∀ v ∈ ys, v.cells.length = size) (h1 : ∀ v ∈ flat ys, v.one = true) : Ys P G w size tx cy ys := by
  refine ⟨?_, hel⟩
  cases hr with
  | lst0 => exact ⟨[], Src.ofNil w hk 0, Rels.nil G⟩
  | lst1 p cap =>
    cases p with
    | none => exact ⟨[], Src.ofNil w hk cap, Rels.nil G⟩
    | some a => exact ⟨[], Src.ofSlice w hk a 0 cap [] (by simp) (fun j u hj => by simp at hj) (fun u hu => by cases hu), Rels.nil G⟩
  | @lst _ _ b off cap sz cvs hsz hl hm hv hc ht =>
    have hrel : Rels G (flat ys) cvs := ⟨hl, hv⟩
    exact ⟨cvs, Src.ofSlice w hk ⟨b, off, none⟩ ys.length cap cvs (by rw [hl, flat_length hel]) (fun j u hj => by rw [add_none]; exact hw.m _ _ _ (hm j u hj)) (one_of_rels hrel h1), hrel⟩
theorem map_one (ty : Ty) (l : List ty.den) : ∀ v ∈ flat (l.map ty.val), v.one = true := by
  intro v hv
  obtain ⟨x, hx, hv⟩ := List.mem_flatMap.1 hv
  obtain ⟨y, _, rfl⟩ := List.mem_map.1 hx
  rw [Ty.val_cells] at hv
  exact Ty.cells_one ty y v hv
theorem map_size (ty : Ty) (l : List ty.den) : ∀ v ∈ l.map ty.val, v.cells.length = ty.size := by
  intro v hv
  obtain ⟨y, _, rfl⟩ := List.mem_map.1 hv
  exact Ty.val_len ty y
theorem Ys.of_bs {size : Nat} {tx e' : TypeId} (hk : P.underlying tx = some (.slice e')) {sy : Bool} {n off len : Nat} {c : BC} {cy : Value} (hw : WRel Γ G ob nm w) (hr : VRel G (.bs sy n off len) cy) (hn : nm[n]? = some (some (.live c))) (hcz : c.sz = size) (h1 : ∀ v ∈ flat c.els, v.one = true) :
    Ys P G w size tx cy ((c.els.drop off).take len) := by
  cases hr with
  | bs0 => exact ⟨⟨[], by simpa using Src.ofNil w hk 0, by rw [List.take_zero]; exact Rels.nil G⟩, fun v hv => by simp at hv⟩
  | bs1 sy n off b o =>
    refine ⟨⟨[], ?_, by rw [List.take_zero]; exact Rels.nil G⟩, fun v hv => by simp at hv⟩
    simpa using Src.ofSlice w hk ⟨b, o, none⟩ 0 0 [] (by simp) (fun j u hj => by simp at hj) (fun u hu => by cases hu)
  | @bs _ _ _ _ x hT hl =>
    have B := hw.hnm n c x hn hT
    obtain ⟨cvs, E, fr, e1, e2, e3, e4⟩ := B.row
    have hp := B.part hl e1
    have hxs : x.sz = size := B.sz.trans hcz
    have hel : ∀ v ∈ (c.els.drop off).take len, v.cells.length = size := fun v hv => (B.el v (List.mem_of_mem_drop (List.mem_of_mem_take hv))).trans hcz
    have hlen : ((c.els.drop off).take len).length = len := BC.slice_els (by rw [B.len]; exact hl)
    refine ⟨⟨_, ?_, hp⟩, hel⟩
    rw [hlen]
    refine Src.ofSlice w hk ⟨x.b, x.lo + off * x.sz, none⟩ len (x.cap - off) _ (by rw [hp.1, flat_length hel, hlen]) (fun j u hj => ?_) (one_of_rels hp (fun v hv => ?_))
    · rw [add_none, cell_row e1]
      rw [List.getElem?_take] at hj
      split at hj
      · rw [List.getElem?_drop] at hj
        simpa using hj
      · cases hj
    · obtain ⟨u, hu, hv⟩ := List.mem_flatMap.1 hv
      exact h1 v (List.mem_flatMap.2 ⟨u, List.mem_of_mem_drop (List.mem_of_mem_take hu), hv⟩)
/-- A string's bytes as numbers. -/
def bytesOf (s : ByteArray) : List Int := s.data.toList.map fun b => ((b.toNat : Nat) : Int)
theorem flat_si (k : IntKind) : ∀ (l : List Int), flat (l.map (V.si k)) = l.map (V.si k)
  | [] => rfl
  | x :: l => by rw [List.map_cons, flat_cons, flat_si k l]; rfl
theorem Ys.of_str {tx : TypeId} (hk : P.underlying tx = some .string) {s : ByteArray} : Ys P G w 1 tx (.string s) ((bytesOf s).map (V.si .u8)) := by
  have hl : (bytesOf s).length = s.size := by
    unfold bytesOf
    rw [List.length_map, Array.length_toList]
    rfl
  refine ⟨⟨byteCells s, ?_, ?_⟩, fun v hv => ?_⟩
  · rw [List.length_map, hl]; exact Src.ofString w hk s
  · rw [flat_si]
    refine ⟨by simp only [bytesOf, byteCells, List.length_map], fun j v cv h1 h2 => ?_⟩
    simp only [bytesOf, byteCells, List.getElem?_map, Option.map_map, Option.map_eq_some_iff] at h1 h2
    obtain ⟨a, ha, rfl⟩ := h1
    obtain ⟨b, hb, rfl⟩ := h2
    rw [ha] at hb
    cases hb
    exact .si _ _
  · obtain ⟨x, _, rfl⟩ := List.mem_map.1 hv
    rfl
theorem flat_i (k : IntKind) : ∀ (l : List Int), flat (l.map (V.i k)) = l.map (V.i k)
  | [] => rfl
  | x :: l => by rw [List.map_cons, flat_cons, flat_i k l]; rfl
theorem Ys.of_strK {tx : TypeId} (hk : P.underlying tx = some .string) {s : ByteArray} : Ys P G w 1 tx (.string s) ((bytesOf s).map (V.i .u8)) := by
  obtain ⟨⟨news, h1, h2⟩, _⟩ := Ys.of_str (G := G) (w := w) hk (s := s)
  refine ⟨⟨news, by simpa using h1, ?_⟩, fun v hv => ?_⟩
  · rw [flat_si] at h2
    rw [flat_i]
    refine ⟨by simpa using h2.1, fun j v cv g1 g2 => ?_⟩
    simp only [List.getElem?_map, Option.map_eq_some_iff] at g1
    obtain ⟨x, hx, rfl⟩ := g1
    have := h2.2 j (.si .u8 x) cv (by simp [hx]) g2
    cases this
    exact .i _ _
  · obtain ⟨x, _, rfl⟩ := List.mem_map.1 hv
    rfl
theorem Ys.conv {size : Nat} {tx : TypeId} {cy : Value} {ys : List V} (h : Ys P G w size tx cy ys) {ty : Ty} (hz : ty.size = size) {l : List ty.den} (hl : optMap (whole ty.ofC) ys = some l) : Ys P G w size tx cy (l.map ty.val) := by
  obtain ⟨h1, h2, h3⟩ := optMap_ok (Ty.ofC_ok ty) hl
  obtain ⟨news, hs, hr⟩ := h.src
  refine ⟨⟨news, ?_, h3 G news hr⟩, fun v hv => by rw [← hz]; exact map_size ty l v hv⟩
  rw [List.length_map, h1]
  exact hs

/-! ### The evaluator -/
def isStrTy (P : Program) (T : TypeId) : Bool := match P.underlying T with | some .string => true | _ => false
def isSliceTy (P : Program) (T : TypeId) : Bool := match P.underlying T with | some (.slice _) => true | _ => false
/-- A type's row: how many cells and bytes an element has. -/
def tyRow (P : Program) (e : TypeId) : Option (Nat × Nat) :=
  match P.info? e with
  | some i => match i.zero with | some z => if z.cells.size = i.size ∧ 1 ≤ i.bytes then some (i.size, i.bytes) else none | none => none
  | none => none
def oneB (l : List V) : Bool := l.all fun v => v.cells.all V.one
/-- A part of a buffer's content. -/
def BC.part (c : BC) (off len : Nat) : BC :=
  match c with
  | .cs sz xs => .cs sz ((xs.drop off).take len)
  | .arr ty l => .arr ty ((l.drop off).take len)
theorem BC.part_els (c : BC) (off len : Nat) : (c.part off len).els = (c.els.drop off).take len ∧ (c.part off len).sz = c.sz := by
  cases c <;> simp [BC.part, BC.els, BC.sz, List.map_take, List.map_drop]
def BC.oneOk : BC → Bool
  | .arr _ _ => true
  | .cs _ xs => oneB xs
/-- What is appended; the buffers that are looked at. -/
def ysE (P : Program) (size : Nat) (tx : TypeId) (y : V) (nm : Nm) : Option (BC × List Nat) :=
  match y.str? with
  | some (s, sy) => if isStrTy P tx ∧ size = 1 then some ((match sy with | true => .arr (.int .u8) (bytesOf s) | false => .cs 1 ((bytesOf s).map (V.i .u8))), []) else none
  | none =>
    if isSliceTy P tx then
      match y with
      | .lst _ ys => if ys.all (fun v => v.cells.length == size) && oneB ys then some (.cs size ys, []) else none
      | .slst _ ty l => if ty.size = size then some (.arr ty l, []) else none
      | .bs _ n off len =>
        match nm[n]? with
        | some (some (.live c)) => if c.sz = size ∧ c.oneOk = true then some (c.part off len, [n]) else none
        | _ => none
      | _ => none
    else none
theorem oneB_flat {l : List V} (h : oneB l = true) : ∀ v ∈ flat l, v.one = true := by
  intro v hv
  obtain ⟨x, hx, hv⟩ := List.mem_flatMap.1 hv
  have := List.all_eq_true.1 h x hx
  exact List.all_eq_true.1 this v hv
theorem ysE_ok {size : Nat} {tx : TypeId} {y : Operand} {c : BC} {rn : List Nat} (h : ysE P size tx (σ.eval Γ y) σ.nm = some (c, rn)) : c.sz = size ∧ ∀ G a w, Rel Γ G σ a w → Ys P G w size tx (a.eval y) c.els := by
  unfold ysE at h
  split at h
  · rename_i s sy hy
    split at h
    · rename_i hst
      cases h
      obtain ⟨hst, rfl⟩ := hst
      refine ⟨by cases sy <;> rfl, fun G a w hr => ?_⟩
      rw [str?_eq hy (hr.eval y)]
      unfold isStrTy at hst
      split at hst
      · rename_i hu
        cases sy
        · exact Ys.of_strK hu
        · exact Ys.of_str hu
      · cases hst
    · cases h
  · split at h
    · rename_i hsl
      unfold isSliceTy at hsl
      split at hsl
      · rename_i e' hu
        split at h
        · rename_i t ys hy
          split at h
          · rename_i hb
            simp only [Bool.and_eq_true] at hb
            cases h
            refine ⟨rfl, fun G a w hr => ?_⟩
            have := hr.eval y
            rw [hy] at this
            exact Ys.of_lst hu hr.wr this (fun v hv => by simpa using List.all_eq_true.1 hb.1 v hv) (oneB_flat hb.2)
          · cases h
        · rename_i t ty l hy
          split at h
          · rename_i hz
            cases h
            refine ⟨hz, fun G a w hr => ?_⟩
            have := hr.eval y
            rw [hy] at this
            cases this with
            | slst q => exact Ys.of_lst hu hr.wr q (fun v hv => (map_size ty l v hv).trans hz) (map_one ty l)
          · cases h
        · rename_i sy n off len hy
          split at h
          · rename_i c0 hn
            split at h
            · rename_i hz
              cases h
              refine ⟨(BC.part_els c0 off len).2.trans hz.1, fun G a w hr => ?_⟩
              have := hr.eval y
              rw [hy] at this
              rw [(BC.part_els c0 off len).1]
              refine Ys.of_bs hu hr.wr this hn hz.1 ?_
              cases c0 with
              | arr ty l => exact map_one ty l
              | cs sz xs => exact oneB_flat hz.2
            · cases h
          · cases h
        · cases h
      · cases hsl
    · cases h
/-- Two contents, one behind the other. -/
def BC.join (a b : BC) : Option BC :=
  match a with
  | .arr ty l =>
    match b with
    | .arr ty' l' => match listAs ty l' with | some l2 => some (.arr ty (l ++ l2)) | none => none
    | .cs _ ys => match optMap (whole ty.ofC) ys with | some l2 => some (.arr ty (l ++ l2)) | none => none
  | .cs sz xs =>
    match b with
    | .cs _ ys => some (.cs sz (xs ++ ys))
    | .arr ty l => match xs with | [] => some (.arr ty l) | _ :: _ => none
theorem BC.join_ok {a b c : BC} (h : a.join b = some c) {size : Nat} (ha : a.sz = size) (hb : b.sz = size) : c.sz = size ∧ ∃ ys, c.els = a.els ++ ys ∧ ys.length = b.els.length ∧ ∀ (G : Gh) (w : World) (tx : TypeId) (cy : Value), Ys P G w size tx cy b.els → Ys P G w size tx cy ys := by
  cases a with
  | arr ty l =>
    cases b with
    | arr ty' l' =>
      simp only [BC.join] at h
      split at h
      · rename_i l2 hl
        cases h
        refine ⟨ha, l'.map ty'.val, ?_, rfl, fun _ _ _ _ h => h⟩
        simp only [BC.els, List.map_append, listAs_eq hl]
      · cases h
    | cs sz ys =>
      simp only [BC.join] at h
      split at h
      · rename_i l2 hl
        cases h
        refine ⟨ha, l2.map ty.val, by simp [BC.els], ?_, fun G w tx cy hy => hy.conv ha hl⟩
        simp only [BC.els, List.length_map]
        exact (optMap_ok (Ty.ofC_ok ty) hl).1
      · cases h
  | cs sz xs =>
    cases b with
    | cs sz' ys => simp only [BC.join] at h; cases h; exact ⟨ha, ys, rfl, rfl, fun _ _ _ _ h => h⟩
    | arr ty l =>
      cases xs with
      | nil => simp only [BC.join] at h; cases h; exact ⟨hb, l.map ty.val, rfl, rfl, fun _ _ _ _ h => h⟩
      | cons x xs => simp only [BC.join] at h; cases h
def BC.isArr : BC → Bool
  | .arr _ _ => true
  | .cs _ _ => false
/-- append, reckoned: x, y; s: the place that is kept. -/
def appX (P : Program) (ts : Array TypeId) (x y : V) (nm : Nm) (s : Nat) : Option Out :=
  match ts.toList with
  | [t, tx] =>
    match P.underlying t with
    | some (.slice e) =>
      match tyRow P e with
      | some (size, bytes) =>
        match ysE P size tx y nm with
        | some (b, rn) =>
          match x with
          | .lst .full [] =>
            match (BC.cs size []).join b with
            | some c' => some ⟨decide (b.len * 2 * bytes ≤ 281474976710656), b.isArr, .bs c'.isArr s 0 b.len, { rn := rn, wn := [(s, .live c')] }⟩
            | none => none
          | .bs sy n off len =>
            match nm[n]? with
            | some (some (.live c)) =>
              if c.sz = size then
                match (c.part off len).join b with
                | some c' => some ⟨decide ((len + b.len) * 2 * bytes ≤ 281474976710656), sy || b.isArr, .bs (sy || c'.isArr) s 0 (len + b.len), { rn := n :: rn, wn := [(n, .dead), (s, .live c')] }⟩
                | none => none
              else none
            | _ => none
          | _ => none
        | none => none
      | none => none
    | _ => none
  | _ => none
theorem tyRow_ok {e : TypeId} {size bytes : Nat} (h : tyRow P e = some (size, bytes)) : ∃ i z, P.info? e = some i ∧ i.zero = some z ∧ z.cells.size = i.size ∧ 1 ≤ i.bytes ∧ i.size = size ∧ i.bytes = bytes := by
  unfold tyRow at h
  split at h
  · rename_i i hi
    split at h
    · rename_i z hz
      split at h
      · rename_i hc
        cases h
        exact ⟨i, z, hi, hz, hc.1, hc.2, rfl, rfl⟩
      · cases h
    · cases h
  · cases h
theorem SemV.appX {o : Oper} {cl : Call} {x y : Operand} {s : Nat} {out : Out} (ho : o.op = .call cl) (hcal : cl.callee = .builtin .append) (ha : cl.args.toList = [x, y]) (h : appX P cl.argTypes (σ.eval Γ x) (σ.eval Γ y) σ.nm s = some out) (hchk : out.chk = true) (hs : σ.nm[s]? = some none) :
    SemV P Γ o σ out.v (out.eff.ob σ.ob) (out.eff.nm σ.nm) := by
  unfold Go.Proofs.Ytnjjkobijjdnbaa.appX at h
  split at h
  · rename_i t tx hts
    have hts : cl.argTypes = #[t, tx] := by apply Array.ext'; simpa using hts
    split at h
    · rename_i e hu
      split at h
      · rename_i size bytes hrow
        obtain ⟨i, z, hi, hz, hzs, hb2, rfl, rfl⟩ := tyRow_ok hrow
        split at h
        · rename_i b rn hys
          obtain ⟨hbz, hY⟩ := ysE_ok hys
          split at h
          · rename_i hx
            split at h
            · rename_i c' hj
              cases h
              have hd : b.len * 2 * i.bytes ≤ 281474976710656 := of_decide_eq_true hchk
              obtain ⟨hcs, ys, h1, h2, h3⟩ := BC.join_ok (P := P) hj rfl hbz
              rw [BC.els_len] at h2
              have := SemV.append (P := P) (Γ := Γ) (σ := σ) (s := s) (len := 0) (olds := []) (ys := ys) (nm1 := σ.nm) (c' := c') ho hcal ha hts hu hi hz hzs hb2 hs (.inl ⟨hx, rfl, rfl, rfl⟩) (fun G a w hr => h3 G w tx _ (hY G a w hr)) (by rw [h2]; simpa using hd) (by rw [h1]; rfl) hcs c'.isArr
              rw [h2, Nat.zero_add] at this
              exact this
            · cases h
          · rename_i sy n off len hx
            split at h
            · rename_i c hn
              split at h
              · rename_i hcz
                split at h
                · rename_i c' hj
                  cases h
                  have hd : (len + b.len) * 2 * i.bytes ≤ 281474976710656 := of_decide_eq_true hchk
                  obtain ⟨p1, p2⟩ := BC.part_els c off len
                  obtain ⟨hcs, ys, h1, h2, h3⟩ := BC.join_ok (P := P) hj (p2.trans hcz) hbz
                  rw [BC.els_len] at h2
                  rw [p1] at h1
                  have := SemV.append (P := P) (Γ := Γ) (σ := σ) (s := s) (len := len) (olds := (c.els.drop off).take len) (ys := ys) (nm1 := σ.nm.set n (some .dead)) (c' := c') ho hcal ha hts hu hi hz hzs hb2 hs (.inr ⟨sy, n, off, c, hx, hn, hcz, rfl, rfl⟩) (fun G a w hr => h3 G w tx _ (hY G a w hr)) (by rw [h2]; exact hd) h1 hcs (sy || c'.isArr)
                  rw [h2] at this
                  exact this
                · cases h
              · cases h
            · cases h
          · cases h
        · cases h
      · cases h
    · cases h
  · cases h
end
end Go.Proofs.Ytnjjkobijjdnbaa
