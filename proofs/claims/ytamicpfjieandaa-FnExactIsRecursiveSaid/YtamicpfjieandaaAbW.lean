/- Where the results of the functions lie. Printed by results.py. -/
import Derived.Test.YtamicpfjieandaaAbT
namespace Go.Proofs.Ytamicpfjieandaa
open Go Go.Ab
@[go_sem] theorem res0 : Try.f0.results.toList = [] := rfl
@[go_sem] theorem res1 : Try.f1.results.toList = [] := rfl
@[go_sem] theorem res2 : Try.f2.results.toList = [] := rfl
@[go_sem] theorem res3 : Try.f3.results.toList = [.tmp 2] := rfl
@[go_sem] theorem res4 : Try.f4.results.toList = [.tmp 2] := rfl
@[go_sem] theorem res5 : Try.f5.results.toList = [.tmp 4] := rfl
@[go_sem] theorem res6 : Try.f6.results.toList = [.tmp 4] := rfl
@[go_sem] theorem res7 : Try.f7.results.toList = [.tmp 4] := rfl
@[go_sem] theorem res8 : Try.f8.results.toList = [.tmp 4] := rfl
@[go_sem] theorem res9 : Try.f9.results.toList = [.tmp 2] := rfl
@[go_sem] theorem res10 : Try.f10.results.toList = [.tmp 4] := rfl
@[go_sem] theorem res11 : Try.f11.results.toList = [.tmp 4] := rfl
@[go_sem] theorem res12 : Try.f12.results.toList = [.tmp 4] := rfl
@[go_sem] theorem res13 : Try.f13.results.toList = [.tmp 2] := rfl
@[go_sem] theorem res14 : Try.f14.results.toList = [.cell 2 30] := rfl
@[go_sem] theorem res15 : Try.f15.results.toList = [.tmp 2] := rfl
@[go_sem] theorem res16 : Try.f16.results.toList = [.tmp 4] := rfl
@[go_sem] theorem res17 : Try.f17.results.toList = [.tmp 4] := rfl
@[go_sem] theorem res18 : Try.f18.results.toList = [.tmp 4] := rfl
@[go_sem] theorem res19 : Try.f19.results.toList = [.tmp 4] := rfl
@[go_sem] theorem res20 : Try.f20.results.toList = [.tmp 4] := rfl
@[go_sem] theorem res21 : Try.f21.results.toList = [.tmp 4] := rfl
@[go_sem] theorem res22 : Try.f22.results.toList = [.tmp 2] := rfl
@[go_sem] theorem res23 : Try.f23.results.toList = [.cell 2 49] := rfl
@[go_sem] theorem res24 : Try.f24.results.toList = [.tmp 2] := rfl
@[go_sem] theorem res25 : Try.f25.results.toList = [.tmp 4] := rfl
@[go_sem] theorem res26 : Try.f26.results.toList = [.tmp 4] := rfl
@[go_sem] theorem res27 : Try.f27.results.toList = [.tmp 4] := rfl
@[go_sem] theorem res28 : Try.f28.results.toList = [.tmp 4] := rfl
@[go_sem] theorem res29 : Try.f29.results.toList = [.tmp 4] := rfl
@[go_sem] theorem res30 : Try.f30.results.toList = [.tmp 4] := rfl
@[go_sem] theorem res31 : Try.f31.results.toList = [.tmp 4] := rfl
@[go_sem] theorem res32 : Try.f32.results.toList = [.tmp 4] := rfl
@[go_sem] theorem res33 : Try.f33.results.toList = [.tmp 4] := rfl
@[go_sem] theorem res34 : Try.f34.results.toList = [.cell 2 63] := rfl
@[go_sem] theorem res35 : Try.f35.results.toList = [.tmp 4] := rfl
@[go_sem] theorem res36 : Try.f36.results.toList = [.tmp 4] := rfl
@[go_sem] theorem res37 : Try.f37.results.toList = [.tmp 4] := rfl
@[go_sem] theorem res38 : Try.f38.results.toList = [.tmp 4] := rfl
@[go_sem] theorem res39 : Try.f39.results.toList = [.tmp 4] := rfl
@[go_sem] theorem res40 : Try.f40.results.toList = [.tmp 4] := rfl
@[go_sem] theorem res41 : Try.f41.results.toList = [.tmp 4] := rfl
@[go_sem] theorem res42 : Try.f42.results.toList = [.tmp 2] := rfl
@[go_sem] theorem res43 : Try.f43.results.toList = [.tmp 4] := rfl
@[go_sem] theorem res44 : Try.f44.results.toList = [.tmp 2] := rfl
@[go_sem] theorem res45 : Try.f45.results.toList = [.tmp 2] := rfl
@[go_sem] theorem res46 : Try.f46.results.toList = [.tmp 4] := rfl
@[go_sem] theorem res47 : Try.f47.results.toList = [.tmp 4] := rfl
@[go_sem] theorem res48 : Try.f48.results.toList = [.tmp 4] := rfl
@[go_sem] theorem res49 : Try.f49.results.toList = [.tmp 4] := rfl
@[go_sem] theorem res50 : Try.f50.results.toList = [.tmp 4] := rfl
@[go_sem] theorem res51 : Try.f51.results.toList = [.tmp 2] := rfl
@[go_sem] theorem res52 : Try.f52.results.toList = [.tmp 4] := rfl
@[go_sem] theorem res53 : Try.f53.results.toList = [.tmp 4] := rfl
@[go_sem] theorem res54 : Try.f54.results.toList = [.tmp 4] := rfl
@[go_sem] theorem res55 : Try.f55.results.toList = [.tmp 4] := rfl
@[go_sem] theorem res56 : Try.f56.results.toList = [.tmp 4] := rfl
@[go_sem] theorem res57 : Try.f57.results.toList = [.tmp 4] := rfl
@[go_sem] theorem res58 : Try.f58.results.toList = [.tmp 4] := rfl
@[go_sem] theorem res59 : Try.f59.results.toList = [.tmp 4] := rfl
@[go_sem] theorem res60 : Try.f60.results.toList = [.tmp 4] := rfl
@[go_sem] theorem res61 : Try.f61.results.toList = [.tmp 2] := rfl
@[go_sem] theorem res62 : Try.f62.results.toList = [.tmp 2] := rfl
@[go_sem] theorem res63 : Try.f63.results.toList = [.tmp 2] := rfl
@[go_sem] theorem res64 : Try.f64.results.toList = [.tmp 4] := rfl
@[go_sem] theorem res65 : Try.f65.results.toList = [.tmp 4] := rfl
@[go_sem] theorem res66 : Try.f66.results.toList = [.tmp 4] := rfl
@[go_sem] theorem res67 : Try.f67.results.toList = [.tmp 4] := rfl
@[go_sem] theorem res68 : Try.f68.results.toList = [.cell 2 47] := rfl
@[go_sem] theorem res69 : Try.f69.results.toList = [.tmp 2] := rfl
@[go_sem] theorem res70 : Try.f70.results.toList = [.tmp 4] := rfl
@[go_sem] theorem res71 : Try.f71.results.toList = [.tmp 4] := rfl
@[go_sem] theorem res72 : Try.f72.results.toList = [.tmp 4] := rfl
@[go_sem] theorem res73 : Try.f73.results.toList = [.tmp 2] := rfl
@[go_sem] theorem res74 : Try.f74.results.toList = [.tmp 4] := rfl
@[go_sem] theorem res75 : Try.f75.results.toList = [.tmp 4] := rfl
@[go_sem] theorem res76 : Try.f76.results.toList = [.tmp 2] := rfl
@[go_sem] theorem res77 : Try.f77.results.toList = [.tmp 4] := rfl
@[go_sem] theorem res78 : Try.f78.results.toList = [.tmp 4] := rfl
@[go_sem] theorem res79 : Try.f79.results.toList = [.tmp 2] := rfl
@[go_sem] theorem res80 : Try.f80.results.toList = [.tmp 2] := rfl
@[go_sem] theorem res81 : Try.f81.results.toList = [.tmp 4] := rfl
@[go_sem] theorem res82 : Try.f82.results.toList = [.tmp 4] := rfl
@[go_sem] theorem res83 : Try.f83.results.toList = [.tmp 4] := rfl
@[go_sem] theorem res84 : Try.f84.results.toList = [.tmp 4] := rfl
@[go_sem] theorem res85 : Try.f85.results.toList = [.tmp 4] := rfl
@[go_sem] theorem res86 : Try.f86.results.toList = [.tmp 2] := rfl
@[go_sem] theorem res87 : Try.f87.results.toList = [.tmp 2] := rfl
@[go_sem] theorem res88 : Try.f88.results.toList = [.tmp 4] := rfl
@[go_sem] theorem res89 : Try.f89.results.toList = [.tmp 3] := rfl
@[go_sem] theorem res90 : Try.f90.results.toList = [.tmp 4] := rfl
@[go_sem] theorem res91 : Try.f91.results.toList = [.tmp 6] := rfl
@[go_sem] theorem res92 : Try.f92.results.toList = [.tmp 2] := rfl
@[go_sem] theorem res93 : Try.f93.results.toList = [.tmp 2] := rfl
@[go_sem] theorem res94 : Try.f94.results.toList = [.tmp 4] := rfl
@[go_sem] theorem res95 : Try.f95.results.toList = [.cell 2 118] := rfl
@[go_sem] theorem res96 : Try.f96.results.toList = [.tmp 4] := rfl
@[go_sem] theorem res97 : Try.f97.results.toList = [.tmp 2] := rfl
@[go_sem] theorem res98 : Try.f98.results.toList = [.tmp 2] := rfl
@[go_sem] theorem res99 : Try.f99.results.toList = [.tmp 6] := rfl
@[go_sem] theorem res100 : Try.f100.results.toList = [.tmp 4] := rfl
@[go_sem] theorem res101 : Try.f101.results.toList = [.tmp 4] := rfl
@[go_sem] theorem res102 : Try.f102.results.toList = [.tmp 2] := rfl
@[go_sem] theorem res103 : Try.f103.results.toList = [.tmp 4] := rfl
@[go_sem] theorem res104 : Try.f104.results.toList = [.tmp 2] := rfl
@[go_sem] theorem res105 : Try.f105.results.toList = [.tmp 3] := rfl
@[go_sem] theorem res106 : Try.f106.results.toList = [.tmp 4] := rfl
@[go_sem] theorem res107 : Try.f107.results.toList = [.tmp 2] := rfl
@[go_sem] theorem res108 : Try.f108.results.toList = [.tmp 2] := rfl
@[go_sem] theorem res109 : Try.f109.results.toList = [.tmp 4] := rfl
@[go_sem] theorem res110 : Try.f110.results.toList = [] := rfl
@[go_sem] theorem res111 : Try.f111.results.toList = [] := rfl
@[go_sem] theorem res112 : Try.f112.results.toList = [.tmp 4] := rfl
@[go_sem] theorem res113 : Try.f113.results.toList = [.tmp 4] := rfl
@[go_sem] theorem res114 : Try.f114.results.toList = [.tmp 4] := rfl
@[go_sem] theorem res115 : Try.f115.results.toList = [.tmp 2] := rfl
@[go_sem] theorem res116 : Try.f116.results.toList = [.cell 2 47] := rfl
@[go_sem] theorem res117 : Try.f117.results.toList = [.tmp 6] := rfl
@[go_sem] theorem res118 : Try.f118.results.toList = [.tmp 4] := rfl
@[go_sem] theorem res119 : Try.f119.results.toList = [.tmp 2] := rfl
@[go_sem] theorem res120 : Try.f120.results.toList = [.tmp 2] := rfl
@[go_sem] theorem res121 : Try.f121.results.toList = [.tmp 12] := rfl
@[go_sem] theorem res122 : Try.f122.results.toList = [.tmp 5] := rfl
@[go_sem] theorem res123 : Try.f123.results.toList = [.tmp 4] := rfl
@[go_sem] theorem res124 : Try.f124.results.toList = [] := rfl
@[go_sem] theorem res125 : Try.f125.results.toList = [.tmp 4] := rfl
@[go_sem] theorem res126 : Try.f126.results.toList = [.tmp 2] := rfl
@[go_sem] theorem res127 : Try.f127.results.toList = [.tmp 2] := rfl
@[go_sem] theorem res128 : Try.f128.results.toList = [.tmp 2] := rfl
@[go_sem] theorem res129 : Try.f129.results.toList = [.tmp 2] := rfl
@[go_sem] theorem res130 : Try.f130.results.toList = [.cell 2 47] := rfl
@[go_sem] theorem res131 : Try.f131.results.toList = [] := rfl
@[go_sem] theorem res132 : Try.f132.results.toList = [] := rfl
@[go_sem] theorem res133 : Try.f133.results.toList = [] := rfl
@[go_sem] theorem res134 : Try.f134.results.toList = [] := rfl
@[go_sem] theorem res135 : Try.f135.results.toList = [] := rfl
@[go_sem] theorem res136 : Try.f136.results.toList = [] := rfl
@[go_sem] theorem res137 : Try.f137.results.toList = [] := rfl
@[go_sem] theorem res138 : Try.f138.results.toList = [] := rfl
@[go_sem] theorem res139 : Try.f139.results.toList = [] := rfl
@[go_sem] theorem res140 : Try.f140.results.toList = [] := rfl
@[go_sem] theorem res141 : Try.f141.results.toList = [] := rfl
@[go_sem] theorem res142 : Try.f142.results.toList = [] := rfl
@[go_sem] theorem res143 : Try.f143.results.toList = [] := rfl
@[go_sem] theorem res144 : Try.f144.results.toList = [] := rfl
@[go_sem] theorem res145 : Try.f145.results.toList = [] := rfl
@[go_sem] theorem res146 : Try.f146.results.toList = [] := rfl
-- nt 0:0 1:0 2:1 3:69 4:69 5:77 6:74 7:34 8:92 9:69 10:74 11:74 12:12 13:26 14:9 15:24 16:26 17:11 18:10 19:19 20:21 21:38 22:36 23:23 24:28 25:26 26:33 27:18 28:20 29:22 30:32 31:26 32:42 33:38 34:32 35:36 36:46 37:30 38:13 39:12 40:28 41:51 42:22 43:35 44:69 45:73 46:27 47:19 48:21 49:27 50:21 51:23 52:20 53:27 54:27 55:28 56:35 57:41 58:23 59:19 60:27 61:20 62:23 63:8 64:27 65:68 66:19 67:34 68:15 69:36 70:10 71:21 72:10 73:20 74:36 75:27 76:5 77:12 78:27 79:22 80:23 81:27 82:19 83:19 84:9 85:50 86:32 87:25 88:42 89:8 90:13 91:15 92:26 93:21 94:64 95:11 96:9 97:13 98:16 99:15 100:45 101:15 102:6 103:9 104:5 105:8 106:27 107:4 108:23 109:27 110:20 111:15 112:10 113:19 114:19 115:20 116:29 117:79 118:19 119:9 120:22 121:75 122:10 123:36 124:20 125:36 126:9 127:9 128:19 129:9 130:11 131:1 132:1 133:1 134:1 135:1 136:1 137:1 138:1 139:1 140:1 141:1 142:1 143:1 144:1 145:1 146:1
end Go.Proofs.Ytamicpfjieandaa
