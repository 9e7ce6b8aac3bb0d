import Derived.Test.YthdpmpfchmcklaaGreatDoorEvOp5
namespace Go.Ev
open Go.RowKit

/-! #### convert -/
theorem bytesOf_some : ∀ {l : List Value} {bs : List UInt8}, bytesOf l = some bs → ∃ ns : List Int, l = ns.map (Value.int .u8) ∧ bs = ns.map fun n => UInt8.ofNat n.toNat
  | [], bs, h => by cases h; exact ⟨[], rfl, rfl⟩
  | .int .u8 n :: r, bs, h => by
    have h' : (match bytesOf r with | some l => some (UInt8.ofNat n.toNat :: l) | none => none) = some bs := h
    split at h'
    · rename_i l hl
      cases h'
      obtain ⟨ns, h1, h2⟩ := bytesOf_some hl
      exact ⟨n :: ns, by rw [h1]; rfl, by rw [h2]; rfl⟩
    · cases h'
  | .int .i8 _ :: _, _, h | .int .i16 _ :: _, _, h | .int .i32 _ :: _, _, h | .int .i64 _ :: _, _, h | .int .u16 _ :: _, _, h | .int .u32 _ :: _, _, h | .int .u64 _ :: _, _, h => by simp [bytesOf] at h
  | .bool _ :: _, _, h | .float _ _ :: _, _, h | .complex _ _ _ :: _, _, h | .string _ :: _, _, h | .pointer _ :: _, _, h | .slice _ _ _ :: _, _, h | .map _ :: _, _, h | .chan _ :: _, _, h
  | .func _ _ _ :: _, _, h | .nilFunc :: _, _, h | .iface _ _ :: _, _, h | .nilIface :: _, _, h | .agg _ :: _, _, h | .tuple _ :: _, _, h => by simp [bytesOf] at h
theorem LR.of_ints {σ : Sig} {ns : List Int} {l' : List Value} (h : LR σ (ns.map (Value.int .u8)) l') : l' = ns.map (Value.int .u8) := by
  apply List.ext_getElem?
  intro i
  by_cases hi : i < ns.length
  · have h1 : i < (ns.map (Value.int .u8)).length := by simpa using hi
    have h2 : i < l'.length := by rw [← h.1]; exact h1
    have := h.2 i _ _ (List.getElem?_eq_getElem h1) (List.getElem?_eq_getElem h2)
    rw [List.getElem_map] at this
    rw [List.getElem?_eq_getElem h2, List.getElem?_eq_getElem h1, this.of_plain (by rfl), List.getElem_map]
  · rw [List.getElem?_eq_none (by rw [← h.1]; simpa using Nat.le_of_not_lt hi), List.getElem?_eq_none (by simpa using Nat.le_of_not_lt hi)]
theorem strL_plain (s : ByteArray) : (strL s).all plain = true := by
  rw [List.all_eq_true]
  intro v hv
  simp only [strL, List.mem_map] at hv
  obtain ⟨b, _, rfl⟩ := hv
  rfl
theorem s_convert (P : Program) (src dst : TypeId) (x : Operand) : OpS P (.convert src dst x) (x1 x (oConv P src dst)).f := by
  intro fr sup h r e hf
  rw [x1_f] at e
  unfold oConv at e
  split at e
  · rename_i xv hxv
    unfold convA at e
    split at e
    · rename_i k1 k k2 n hs hdst
      cases e
      refine ⟨abs_pure _ _ _ _, fun o ho σ a w hx hr hd hg K Q hK => ?_⟩
      have e1 := (hx x (by simp [Op.operands]) _ hxv).of_plain (by rfl)
      refine wp_value (v := .int k (wrapA k n)) (w' := w) ?_ (hK _ _ (post_pure hd (.plain rfl)))
      simp [execOp, ho, e1, convert, run_underlying hs, run_underlying hdst, Conv.intToInt, wrapA_eq]
    · rename_i k1 k2 n hs hdst
      cases e
      refine ⟨abs_pure _ _ _ _, fun o ho σ a w hx hr hd hg K Q hK => ?_⟩
      have e1 := (hx x (by simp [Op.operands]) _ hxv).of_plain (by rfl)
      refine wp_value (v := .string (Utf8.encode n)) (w' := w) ?_ (hK _ _ (post_pure hd (.plain rfl)))
      simp [execOp, ho, e1, convert, run_underlying hs, run_underlying hdst, Conv.intToString]
    · rename_i s hs hdst
      cases e
      refine ⟨abs_pure _ _ _ _, fun o ho σ a w hx hr hd hg K Q hK => ?_⟩
      have e1 := (hx x (by simp [Op.operands]) _ hxv).of_plain (by rfl)
      refine wp_value (v := .string s) (w' := w) ?_ (hK _ _ (post_pure hd (.plain rfl)))
      simp [execOp, ho, e1, convert, run_underlying hs, run_underlying hdst]
    · rename_i el s hs hdst
      split at e
      · rename_i he hsz
        split at e
        · obtain rfl := newA_some e
          refine ⟨abs_new _ _ _ _ _, fun o ho σ a w hx hr hd hg K Q hK => ?_⟩
          have e1 := (hx x (by simp [Op.operands]) _ hxv).of_plain (by rfl)
          have hrun := Lib.run_convert_string_bytes (P := P) w src dst el s hs hdst he
          have hge := grownCap_ge w s.size 0 el
          have hlen : (strL s).length = s.size := by simp [strL]
          have hcells : Lib.bytesCells w el s = (strL s ++ List.replicate (grownCap w s.size 0 el - s.size) (Value.int .u8 0)).toArray := by
            apply Array.ext'
            simp [Lib.bytesCells, strL]
          have hcs : (Lib.bytesCells w el s).size = grownCap w s.size 0 el := by
            rw [hcells]; simp [hlen]; omega
          refine wp_value (v := .slice (some ⟨w.heap.size, 0, none⟩) s.size (grownCap w s.size 0 el)) (w' := Lib.bytesWorld w el s) ?_ (hK _ _ ?_)
          · simp only [execOp, ho, e1, Sem.run_bind, hrun, Result.andThen_ok, Sem.run_pure]
          · refine post_new (esz := 1) (ext := grownCap w s.size 0 el - s.size) (rest := List.replicate (grownCap w s.size 0 el - s.size) (Value.int .u8 0)) (fz := ((Lib.bytesCells w el s).size, (Lib.bytesCells w el s).size + 1))
              hd (LR.refl_plain (strL_plain s)) ?_ ?_ (by simp) (fun h => by cases h) (fun _ => rfl) (fun k hk => Lib.bytesWorld_at_old w el s k hk) (by rw [Lib.bytesWorld_size]; omega) ⟨rfl, rfl, rfl⟩ (fun _ _ _ h => h) hr ?_
            · rw [Lib.bytesWorld_at_new, hcells]
            · intro i hi
              rw [hcs]
              simp only [List.length_replicate, hlen] at hi
              omega
            · have := VR.slice (o := 0) (n := s.size) (c := s.size) (c' := grownCap w s.size 0 el) (sigPut_at σ sup ⟨w.heap.size, 0, (strL s).length, 1, grownCap w s.size 0 el - s.size⟩) (Nat.le_refl _) (.inr ⟨by simp [hlen], by simp only; omega⟩)
              simpa using this
        · cases e
      · cases e
    · rename_i el n c hs hdst
      split at e
      · rename_i he
        cases e
        refine ⟨abs_pure _ _ _ _, fun o ho σ a w hx hr hd hg K Q hK => ?_⟩
        have e1 := (hx x (by simp [Op.operands]) _ hxv).of_plain (by rfl)
        refine wp_value (v := .string .empty) (w' := w) ?_ (hK _ _ (post_pure hd (.plain rfl)))
        have hrun := run_convert_bytes_nil (P := P) w src el hs he n c dst hdst
        simp only [execOp, ho, e1, Sem.run_bind, hrun, Result.andThen_ok, Sem.run_pure]
      · cases e
    · rename_i el b o n c hs hdst
      split at e
      · rename_i he
        cases hn : Nat.beq n 0 with
        | true =>
          rw [hn] at e
          cases e
          refine ⟨abs_pure _ _ _ _, fun o' ho σ a w hx hr hd hg K Q hK => ?_⟩
          obtain ⟨m, o', c', hm, e1, _⟩ := (hx x (by simp [Op.operands]) _ hxv).of_slice
          have hn0 : n = 0 := Nat.eq_of_beq_eq_true hn
          subst hn0
          have hl : (loadCells ⟨m.blk, o', none⟩ 0).run P w = .ok (([] : List Int).map (Value.int .u8)).toArray w := by
            simpa using run_loadCells_list (P := P) w ⟨m.blk, o', none⟩ [] (by simp)
          have hrun : (convert src dst (.slice (some ⟨m.blk, o', none⟩) 0 c')).run P w = .ok (.string ⟨⟨[]⟩⟩) w := by
            rw [run_convert_bytes_string w src dst el _ 0 c' hs he hdst, run_bytesToString w _ 0 c' [] hl]
            rfl
          refine wp_value (v := .string ⟨⟨[]⟩⟩) (w' := w) ?_ (hK _ _ (post_pure hd (.plain rfl)))
          simp only [execOp, ho, e1, Sem.run_bind, hrun, Result.andThen_ok, Sem.run_pure]
        | false =>
          rw [hn] at e
          simp only [cond] at e
          split at e
          · rename_i l hl
            split at e
            · rename_i bs hbs
              cases e
              refine ⟨abs_pure _ _ _ _, fun o' ho σ a w hx hr hd hg K Q hK => ?_⟩
              obtain ⟨m, o', c', hm, e1, _, _, hcap⟩ := (hx x (by simp [Op.operands]) _ hxv).of_slice
              have hn0 : n ≠ 0 := by intro h0; subst h0; simp at hn
              rcases hcap with ⟨rfl, _⟩ | ⟨h0, _, _⟩
              · obtain ⟨ns, rfl, rfl⟩ := bytesOf_some hbs
                obtain ⟨l', h1, _, _, _, h2⟩ := rd_run (P := P) hl hm (fun k hk => hr.blk b m k (by simp [inFt]) hm hk)
                rw [h1.of_ints] at h2
                refine wp_value (v := .string ⟨⟨ns.map fun n => UInt8.ofNat n.toNat⟩⟩) (w' := w) ?_ (hK _ _ (post_read hd hr (.plain rfl)))
                have hrun : (convert src dst (.slice (some ⟨m.blk, m.sh + o, none⟩) n c')).run P w = .ok (.string ⟨⟨ns.map fun n => UInt8.ofNat n.toNat⟩⟩) w := by
                  rw [run_convert_bytes_string w src dst el _ n c' hs he hdst, run_bytesToString w _ n c' ns h2, foldl_push_bytes]
                  have : (ByteArray.empty.data ++ (ns.map fun n => UInt8.ofNat n.toNat).toArray) = ⟨ns.map fun n => UInt8.ofNat n.toNat⟩ := by
                    apply Array.ext'
                    simp [ByteArray.empty, ByteArray.emptyWithCapacity]
                    try rfl
                  rw [this]
                simp only [execOp, ho, e1, Sem.run_bind, hrun, Result.andThen_ok, Sem.run_pure]
              · exact absurd h0 hn0
            · cases e
          · cases e
      · cases e
    · cases e
  · cases e
end Go.Ev
